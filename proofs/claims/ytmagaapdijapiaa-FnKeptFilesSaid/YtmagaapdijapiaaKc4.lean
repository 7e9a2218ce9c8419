/- Tk, Tl, Qa, Qp, Yr, Cn, Gq, Zr, Zg, Na, Yd, Gm, Gp in one text. -/
import Derived.Test.YtmagaapdijapiaaRows
import Derived.Test.YtmagaapdijapiaaKc3
import Derived.Test.YtmagaapdijapiaaKc2
import Derived.StillTailTactics
import Derived.Test.YtmagaapdijapiaaHa
import Derived.Test.YtmagaapdijapiaaGa
import Derived.Laws.AppendOwnNone
import Derived.Test.YtmagaapdijapiaaSl
import Derived.Test.YtmagaapdijapiaaUd
import Derived.Test.YtmagaapdijapiaaUb
import Derived.Deep.Cut
import Derived.Laws.Bits64b
import Derived.Test.YtmagaapdijapiaaSb
import Derived.Test.YtmagaapdijapiaaKc1
import Derived.Deep.RegionWith
import Derived.Deep.CutRange
import Derived.Deep.CutBlock
import Derived.Test.YtmagaapdijapiaaLd
namespace Go.Proofs.Ytmagaapdijapiaa
open Go.ChangeShapes Go.WideShapes Go.ChangeAt Go.RowKit
/-- what the taking holds: the table, the two variables that the closure captures, the list -/
structure TP (g bm bo : Nat) (lo : List Bl) (L : List (List Int)) (W : World) : Prop where
  map : W.heap[g]? = some (.map (ents lo 0).toArray lo.length)
  box : Blk W bm 124 #[.map (some g)]
  out : ∃ q c, Blk W bo 56 #[.slice (some ⟨q, 0, none⟩) L.length c] ∧ q ≠ bo ∧ W.ownsRow (bm + 1) 60 2 (.slice (some ⟨q, 0, none⟩) L.length c) L.length (pvs L)
theorem TP.lt {g bm bo : Nat} {lo : List Bl} {L : List (List Int)} {W : World} (h : TP g bm bo lo L W) : g < W.heap.size ∧ bm < W.heap.size ∧ bo < W.heap.size := by
  obtain ⟨q, c, h1, _⟩ := h.out
  exact ⟨heap_lt h.map, h.box.lt, h1.lt⟩
theorem TP.below {g bm bo : Nat} {lo : List Bl} {L : List (List Int)} {W W' : World} (h : TP g bm bo lo L W) (hb : Below W.heap.size W W') : TP g bm bo lo L W' := by
  obtain ⟨q, c, h1, h2, h3⟩ := h.out
  exact ⟨heap_below hb h.map, h.box.below hb h.box.lt, q, c, h1.below hb h1.lt, h2, own_below h3 hb (Nat.le_refl _)⟩
/-- a world in which below block B just block g may have changed -/
structure Fr (B g : Nat) (w w' : World) : Prop where
  os : w'.os = w.os
  tape : w'.tape = w.tape
  output : w'.output = w.output
  size : w.heap.size ≤ w'.heap.size
  block : ∀ k, k < B → k ≠ g → w'.heap[k]? = w.heap[k]?
theorem Fr.of {B g : Nat} {w w' : World} (h : Below B w w') : Fr B g w w' := ⟨h.os, h.tape, h.output, h.size, fun k hk _ => h.block k hk⟩
theorem below_less {B B' : Nat} {w w' : World} (h : Below B w w') (hB : B' ≤ B) : Below B' w w' := ⟨h.os, h.tape, h.output, h.size, fun k hk => h.block k (Nat.lt_of_lt_of_le hk hB)⟩
theorem Fr.trans {B g : Nat} {w w' w'' : World} (h : Fr B g w w') (h2 : Fr B g w' w'') : Fr B g w w'' :=
  ⟨h2.os.trans h.os, h2.tape.trans h.tape, h2.output.trans h.output, Nat.le_trans h.size h2.size, fun k hk hg => (h2.block k hk hg).trans (h.block k hk hg)⟩
theorem Fr.set {B g : Nat} {w w' : World} (h : Below B w w') (o : Obj) : Fr B g w (ChangeMaps.setBlock w' g o) :=
  ⟨h.os, h.tape, h.output, by simpa [ChangeMaps.setBlock] using h.size, fun k hk hg => (setBlock_far w' g k o hg).trans (h.block k hk)⟩
theorem row_slice {W : World} {base : Nat} {e : TypeId} {size n : Nat} {v : Value} {xs : List Value} (h : W.ownsRow base e size v n xs) (hn : v = .slice none 0 0 → False) : ∃ q c, v = .slice (some ⟨q, 0, none⟩) n c := by
  rcases h.2 with ⟨h1, _⟩ | ⟨q, c, _, h1, _⟩
  · exact (hn h1).elim
  · exact ⟨q, c, h1⟩
end Go.Proofs.Ytmagaapdijapiaa
namespace Go.Proofs.Ytmagaapdijapiaa
open Go.ChangeShapes Go.WideShapes Go.ChangeAt Go.RowKit
/-- the plain side of the taking -/
structure PT (lo : List Bl) (cn : Bool) (x y : Int) (L : List (List Int)) (i : Nat) (done : Int → Int → Prop) (lo' : List Bl) : Prop where
  part : Part (hasB lo) cn x y L i done
  tab : Tab lo'
  few : lo'.length ≤ lo.length + L.length
  rest : ∀ U V, hasB lo' U V = (hasB lo U V && !decide ([U, V] ∈ L))
theorem pt_none {lo : List Bl} (ht : Tab lo) {cn : Bool} {x y : Int} (h : hasB lo x y = false) : PT lo cn x y [] 0 (fun _ _ => False) lo :=
  ⟨Part.none h, ht, Nat.le_refl _, fun U V => by simp⟩
theorem pair_eq {U V x y : Int} : [U, V] = [x, y] ↔ U = x ∧ V = y := ⟨fun h => by injection h with h1 h2; injection h2 with h2; exact ⟨h1, h2⟩, fun ⟨h1, h2⟩ => by rw [h1, h2]⟩
theorem rest_add {lo lo' : List Bl} {L : List (List Int)} (ht : Tab lo') (hr : ∀ U V, hasB lo' U V = (hasB lo U V && !decide ([U, V] ∈ L))) (x y : Int) (U V : Int) : hasB (strike lo' x y) U V = (hasB lo U V && !decide ([U, V] ∈ L ++ [[x, y]])) := by
  rw [has_strike ht, hr, Bool.and_assoc, ← Bool.not_or]
  congr 2
  rw [Bool.eq_iff_iff, Bool.or_eq_true, decide_eq_true_iff, decide_eq_true_iff, Bool.and_eq_true, decide_eq_true_iff, decide_eq_true_iff, List.mem_append, List.mem_singleton, pair_eq]
theorem pt_one {lo : List Bl} (ht : Tab lo) {cn : Bool} {x y : Int} (h : hasB lo x y = true) : PT lo cn x y [[x, y]] 0 (fun _ _ => False) (strike lo x y) :=
  ⟨Part.one h, strike_tab ht x y, strike_length lo x y, fun U V => rest_add (L := []) ht (fun U V => by simp) x y U V⟩
section
variable {lo lo' : List Bl} {cn : Bool} {x y : Int} {L : List (List Int)} {i : Nat} {done : Int → Int → Prop}
theorem PT.same (h : PT lo cn x y L i done lo') (hi : i < L.length) {du dv : Int} (hn : hasB lo' ((L[i]).getD 0 0 + du) ((L[i]).getD 1 0 + dv) = false) : PT lo cn x y L i (fun a b => done a b ∨ (a = du ∧ b = dv)) lo' :=
  ⟨h.part.same fun _ _ hh => by
    rw [h.rest, hh, Bool.true_and, Bool.not_eq_false', decide_eq_true_iff] at hn
    exact hn, h.tab, h.few, h.rest⟩
theorem PT.add (h : PT lo cn x y L i done lo') (hi : i < L.length) {du dv : Int} (ha : adjB cn du dv = true) (hn : hasB lo' ((L[i]).getD 0 0 + du) ((L[i]).getD 1 0 + dv) = true) : PT lo cn x y (L ++ [[(L[i]).getD 0 0 + du, (L[i]).getD 1 0 + dv]]) i (fun a b => done a b ∨ (a = du ∧ b = dv)) (strike lo' ((L[i]).getD 0 0 + du) ((L[i]).getD 1 0 + dv)) := by
  have h2 := hn
  rw [h.rest, Bool.and_eq_true, Bool.not_eq_true', decide_eq_false_iff_not] at h2
  refine ⟨h.part.add hi ha h2.1 h2.2, strike_tab h.tab _ _, ?_, rest_add h.tab h.rest _ _⟩
  have := strike_length lo' ((L[i]).getD 0 0 + du) ((L[i]).getD 1 0 + dv)
  have := h.few
  rw [List.length_append, List.length_singleton]
  omega
theorem PT.next (h : PT lo cn x y L i done lo') (hd : ∀ a b, adjB cn a b = true → done a b) : PT lo cn x y L (i + 1) (fun _ _ => False) lo' := ⟨h.part.next hd, h.tab, h.few, h.rest⟩
theorem PT.weak {done' : Int → Int → Prop} (h : PT lo cn x y L i done lo') (hd : ∀ a b, done' a b → adjB cn a b = true → done a b) : PT lo cn x y L i done' lo' := ⟨h.part.weak hd, h.tab, h.few, h.rest⟩
end
/-- the steps before number j -/
def upto (j : Nat) (a b : Int) : Prop := ∃ k, k < j ∧ stepX k = a ∧ stepY k = b
theorem upto_succ (j : Nat) (a b : Int) : upto (j + 1) a b → upto j a b ∨ (a = stepX j ∧ b = stepY j) := by
  rintro ⟨k, hk, h1, h2⟩
  by_cases e : k = j
  · subst e
    exact .inr ⟨h1.symm, h2.symm⟩
  · exact .inl ⟨k, by omega, h1, h2⟩
theorem upto_all {cn : Bool} (a b : Int) (h : adjB cn a b = true) : upto (stepN cn) a b := by
  obtain ⟨j, hj, h1, h2⟩ := adj_step h
  exact ⟨j, hj, h1, h2⟩
theorem Laid8.fr {g : Nat} {w w' : World} {B : Nat} (h : Laid8 w) (hf : Fr B g w w') (hg : 0 < g) (hB : 0 < B) : Laid8 w' := fun j v hv =>
  (World.cell?_of_block (a := ⟨0, 0 + j, none⟩) (hf.block 0 hB (by omega))).trans (h j v hv)
theorem tp_start {g : Nat} {lo : List Bl} {w : World} (x y : Int) (hg : w.heap[g]? = some (.map (ents lo 0).toArray lo.length)) : ∀ w1, w1 = (((w.alloc (.cells #[.map (some g)] 124)).alloc (.cells (ivs .i32 [x, y]) 60)).alloc (.cells #[] 60)).alloc (.cells #[.slice (some ⟨w.heap.size + 1 + 1, 0, none⟩) 0 0] 56) →
    TP g w.heap.size (w.heap.size + 1 + 1 + 1) lo [] w1 ∧ Below w.heap.size w w1 ∧ Blk w1 (w.heap.size + 1) 60 (ivs .i32 [x, y]) := fun w1 e => by
  have hb : Below w.heap.size w w1 := by
    rw [e]
    exact ((((Below.refl _ _).alloc (Nat.le_refl _) _).alloc (by simp) _).alloc (by simp; omega) _).alloc (by simp; omega) _
  have h3 : Blk w1 (w.heap.size + 1 + 1) 60 #[] := by
    rw [e]
    exact (Blk.newAt (by simp) rfl).alloc _
  refine ⟨⟨heap_below hb hg, ?_, w.heap.size + 1 + 1, 0, ?_, by omega, rfl, .inr ⟨_, _, #[], rfl, by omega, h3, Nat.le_refl _, Nat.zero_le _, rfl, rfl⟩⟩, hb, ?_⟩
  · rw [e]
    exact (((Blk.newAt rfl rfl).alloc _).alloc _).alloc _
  · rw [e]
    exact Blk.newAt (by simp) rfl
  · rw [e]
    exact ((Blk.newAt (by simp) rfl).alloc _).alloc _
end Go.Proofs.Ytmagaapdijapiaa
namespace Go.Proofs.Ytmagaapdijapiaa
open Go.ChangeShapes Go.WideShapes Go.ChangeAt Go.RowKit
noncomputable def reachB (H : Int → Int → Bool) (cn : Bool) (x y U V : Int) : Bool := by
  classical exact decide (Reach H cn x y U V)
theorem reachB_iff {H : Int → Int → Bool} {cn : Bool} {x y U V : Int} : reachB H cn x y U V = true ↔ Reach H cn x y U V := by
  classical
  unfold reachB
  simp
theorem reachB_mem {H : Int → Int → Bool} {cn : Bool} {x y : Int} {L : List (List Int)} (h : PieceL H cn x y L) (U V : Int) : decide ([U, V] ∈ L) = reachB H cn x y U V := by
  rw [Bool.eq_iff_iff, reachB_iff, decide_eq_true_iff]
  exact h.iff U V
/-- what is told of a piece -/
noncomputable def pcL (l : List Bl) (x y : Int) (cn : Bool) : List Bl := if vpB l then (if cellB x y then (if hasB l x y then picHas (reachB (hasB l) cn x y) else []) else []) else []
def pcK (l : List Bl) (x y : Int) : Int := if vpB l then (if cellB x y then (if hasB l x y then 0 else 6) else 2) else 1
theorem pcL_bls (l : List Bl) (x y : Int) (cn : Bool) : Bls (pcL l x y cn) := by
  rw [pcL]
  split
  · split
    · split
      · exact picHas_bls _
      · exact fun b hb => by cases hb
    · exact fun b hb => by cases hb
  · exact fun b hb => by cases hb
theorem reach_few {l : List Bl} (hv : VPic l) (x y : Int) (cn : Bool) : (picHas (reachB (hasB l) cn x y)).length ≤ 64 := by
  rw [picHas]
  split
  · rename_i h2
    have hc := h2.choose_spec
    refine Nat.le_trans (pic_sub_length hc.1 hv.pic fun U V hx => ?_) hv.few
    rw [hc.2, reachB_iff] at hx
    exact hx.has
  · exact Nat.zero_le _
theorem pcL_length {l : List Bl} (hrow : Bls l) (h16 : ∀ b ∈ l, is16 b.2) (x y : Int) (cn : Bool) : (pcL l x y cn).length ≤ 64 := by
  rw [pcL]
  split
  · rename_i h
    split
    · split
      · exact reach_few (vpic_of hrow h16 h) x y cn
      · exact Nat.zero_le _
    · exact Nat.zero_le _
  · exact Nat.zero_le _
/-! ### the rest taken away -/
def subT (a b : List Bl) (ks : List (List Int)) (key : List Int) : List Int := if key ∈ ks then mixF notF a b key else maskAt a key
theorem subT_nil (a b : List Bl) (key : List Int) : maskAt a key = subT a b [] key := by rw [subT, if_neg (by simp)]
theorem subT_succ {a b lo : List Bl} {ks : List (List Int)} {k M : List Int} (h : ∀ key, maskAt lo key = subT a b ks key) (hM : M = mixF notF a b k) (key : List Int) : maskAt (putB lo k M) key = subT a b (ks ++ [k]) key := by
  rw [putB_mask, subT, h, subT]
  by_cases e : key = k
  · rw [if_pos e, if_pos (by simp [e]), hM, e]
  · rw [if_neg e]
    by_cases e2 : key ∈ ks
    · rw [if_pos e2, if_pos (List.mem_append_left _ e2)]
    · rw [if_neg e2, if_neg (fun h => by
        rcases List.mem_append.1 h with h | h
        · exact e2 h
        · exact e (List.mem_singleton.1 h))]
theorem opNot_bit {a b : List Int} (ha : a.length = 16) (hb : b.length = 16) (h1 : is16 a) (h2 : is16 b) {x y : Nat} (hx : x < 16) (hy : y < 16) : bitB (opM notF a b) x y = (bitB a x y && !bitB b x y) := by
  have e : (opM notF a b).getD y 0 = notF (a.getD y 0) (b.getD y 0) := by
    rw [opM, List.getD_eq_getElem?_getD, List.getElem?_eq_getElem (by rw [List.length_zipWith]; omega), List.getElem_zipWith]
    rw [List.getD_eq_getElem?_getD, List.getElem?_eq_getElem (by omega), List.getD_eq_getElem?_getD, List.getElem?_eq_getElem (by omega)]
    rfl
  rw [bitB_row, e, notF_bit (h1.getD y) (h2.getD y) hx, bitB_row, bitB_row]
theorem sub_has {a b lo : List Bl} {ks : List (List Int)} (ha : Tab a) (hb : Tab b) (h : ∀ key, maskAt lo key = subT a b ks key) (hk : ∀ c ∈ b, c.1 ∈ ks) (U V : Int) : hasB lo U V = (hasB a U V && !hasB b U V) := by
  rw [hasB, h, subT]
  obtain ⟨a1, a2⟩ := ha.mask [U / 16, V / 16]
  obtain ⟨b1, b2⟩ := hb.mask [U / 16, V / 16]
  by_cases e : [U / 16, V / 16] ∈ ks
  · rw [if_pos e, mixF, opNot_bit a1 b1 a2 b2 (by omega) (by omega)]
    rfl
  · have e2 : maskAt b [U / 16, V / 16] = zr16 := maskAt_no fun c hc h => e (by rw [h]; exact hk c hc)
    have e3 : hasB b U V = false := by rw [hasB, e2, zr16_bit]
    rw [if_neg e, e3, Bool.not_false, Bool.and_true]
    rfl
structure Two (w wr : World) (gb go r : Nat) (a b : List Bl) (seen : List Nat) (ks : List (List Int)) : Prop where
  two : wr.heap[gb]? = some (.map (ents b 0).toArray b.length)
  out : ∃ lo, Tab lo ∧ lo.length ≤ a.length + ks.length ∧ wr.heap[go]? = some (.map (ents lo 0).toArray lo.length) ∧ ∀ key, maskAt lo key = subT a b ks key
  iter : ItAt wr r gb b.length seen
  below : Below w.heap.size w wr
theorem Two.step {w wr w2 w7 : World} {gb go r : Nat} {a b : List Bl} {seen : List Nat} {ks : List (List Int)} {lo : List Bl} {i : Nat} (h : Two w wr gb go r a b seen ks) (h2r : gb ≠ r) (hor : go ≠ r) (h2o : gb ≠ go) (hwr : w.heap.size ≤ r) (hwo : w.heap.size ≤ go)
    (ht : Tab lo) (hlen : lo.length ≤ a.length + ks.length) (hout : wr.heap[go]? = some (.map (ents lo 0).toArray lo.length)) (hm : ∀ key, maskAt lo key = subT a b ks key)
    (hg : wr.grownBy w2 (some r)) (hit : ItAt w2 r gb b.length (seen ++ [i])) (hb : Below w2.heap.size w2 w7) {k M : List Int} (hk : k.length = 2) (hM : M.length = 16) (h16 : is16 M) (hMe : M = mixF notF a b k) :
    Two w (ChangeMaps.setBlock w7 go (.map (ents (putB lo k M) 0).toArray (putB lo k M).length)) gb go r a b (seen ++ [i]) (ks ++ [k]) := by
  have far : ∀ {g : Nat} {o : Obj}, wr.heap[g]? = some o → g ≠ r → g ≠ go → (ChangeMaps.setBlock w7 go (.map (ents (putB lo k M) 0).toArray (putB lo k M).length)).heap[g]? = some o := fun {g o} ho h1 h2 => by
    rw [setBlock_far _ _ _ _ h2]
    exact heap_below hb (heap_grown hg ho (fun e => h1 (by injection e)))
  have hgo : go < w7.heap.size := by
    have h1 := heap_lt hout
    have h2 := hg.size
    have h3 := hb.size
    omega
  refine ⟨far h.two h2r h2o, ⟨putB lo k M, ht.put hk hM h16, ?_, setBlock_at _ _ _ hgo, subT_succ hm hMe⟩, ?_, ?_⟩
  · have := putB_length k M lo
    rw [List.length_append, List.length_singleton]
    omega
  · refine hit.keep ?_
    rw [setBlock_far _ _ _ _ hor.symm]
    exact hb.block r hit.lt
  · have hb2 : Below w.heap.size w w2 := h.below.grown hg h.below.size (fun j e => by cases e; exact hwr)
    exact below_setBlock (hb2.trans (hb.mono hb2.size)) hwo _
theorem Two.start {w W : World} {gb go : Nat} {a b : List Bl} (ha : Tab a) (h2 : W.heap[gb]? = some (.map (ents b 0).toArray b.length)) (ho : W.heap[go]? = some (.map (ents a 0).toArray a.length)) (hb : Below w.heap.size w W) :
    Two w (W.alloc (.mapIter (some gb) b.length #[] b.length)) gb go W.heap.size a b [] [] := by
  have k : ∀ {g : Nat} {o : Obj}, W.heap[g]? = some o → (W.alloc (.mapIter (some gb) b.length #[] b.length)).heap[g]? = some o := fun {g o} h => (Below.heap_alloc W _ g (heap_lt h)).trans h
  exact ⟨k h2, ⟨a, ha, Nat.le_refl _, k ho, subT_nil a b⟩, ItAt.start (heap_alloc_new W _), hb.alloc hb.size _⟩
/-- below a block that is older than what has changed nothing has -/
theorem Fr.below {B g B' : Nat} {w w' : World} (h : Fr B g w w') (hB : B' ≤ B) (hg : B' ≤ g) : Below B' w w' := ⟨h.os, h.tape, h.output, h.size, fun k hk => h.block k (by omega) (by omega)⟩
/-- at the end the piece is left -/
theorem piece_left {l lo' lo : List Bl} {ks : List (List Int)} {cn : Bool} {x y : Int} {L : List (List Int)} (hv : VPic l) (ht : Tab lo') (hp : PieceL (hasB l) cn x y L) (hr : ∀ U V, hasB lo' U V = (hasB l U V && !decide ([U, V] ∈ L))) (hlo : Tab lo) (hm : ∀ key, maskAt lo key = subT l lo' ks key) (hk : ∀ c ∈ lo', c.1 ∈ ks) :
    picR (picOf (maskAt lo)) = picHas (reachB (hasB l) cn x y) ∧ picK (picOf (maskAt lo)) = 0 := by
  have hh : ∀ U V, hasB lo U V = reachB (hasB l) cn x y U V := fun U V => by
    rw [sub_has (Tab.of_pic hv.pic) ht hm hk, hr, reachB_mem hp]
    cases hx : hasB l U V
    · rw [Bool.false_and]
      rw [Bool.eq_iff_iff, reachB_iff]
      exact ⟨fun h => (by cases h), fun h => (by have := h.has; rw [hx] at this; cases this)⟩
    · cases reachB (hasB l) cn x y U V <;> rfl
  obtain ⟨m, hm1, hm2⟩ := sorted_exists (solid lo)
  obtain ⟨hm3, hm4⟩ := pic_sorted hlo hm1 hm2
  have hmh : ∀ U V, hasB m U V = reachB (hasB l) cn x y U V := fun U V => by
    rw [← hh, hasB, hasB, hm4]
  have hpo : picOf (maskAt lo) = picHas (reachB (hasB l) cn x y) := by
    rw [picHas_eq hm3 hmh]
    exact picOf_has hm3 hmh hlo.bls hlo.m16 hh
  have hfew := reach_few hv x y cn
  rw [hpo, picR, picK, if_pos hfew, if_pos hfew]
  exact ⟨rfl, rfl⟩
theorem PieceL.len {H : Int → Int → Bool} {cn : Bool} {x y : Int} {L C : List (List Int)} (h : PieceL H cn x y L) (hC : ∀ u v, H u v = true → [u, v] ∈ C) : L.length ≤ C.length :=
  List.Nodup.length_le_of_subset h.nodup fun c hc => by
    have h2 := h.two c hc
    have hc2 : [c.getD 0 0, c.getD 1 0] ∈ L := by rw [← two_of h2]; exact hc
    rw [two_of h2]
    exact hC _ _ ((h.iff _ _).1 hc2).has
theorem keysL_fresh {l : List Bl} (ha : Apart l) {seen : List Nat} (hs : ∀ i ∈ seen, i < l.length) {i : Nat} (hi : i < l.length) (hn : i ∉ seen) : (l[i]).1 ∉ keysL l seen := fun h => by
  obtain ⟨b, hb, he⟩ := List.mem_map.1 h
  obtain ⟨j, hj, rfl⟩ := List.mem_map.1 hb
  have hjl := hs j hj
  have e : l.getD j ([], []) = l[j] := by rw [List.getD_eq_getElem?_getD, List.getElem?_eq_getElem hjl]; rfl
  rw [e] at he
  have hne : j ≠ i := fun e => hn (e ▸ hj)
  rcases Nat.lt_or_gt_of_ne hne with h | h
  · exact List.pairwise_iff_getElem.1 ha j i hjl hi h he
  · exact List.pairwise_iff_getElem.1 ha i j hi hjl h he.symm
end Go.Proofs.Ytmagaapdijapiaa
namespace Go.Proofs.Ytmagaapdijapiaa
open Go.ChangeShapes Go.WideShapes Go.ChangeAt Go.RowKit
/-- what is told of all pieces -/
noncomputable def psL (l : List Bl) (cn : Bool) : List Int := if vpB l then sizesTo (hasB l) cn (specC l) (specC l).length else []
def psK (l : List Bl) : Int := if vpB l then 0 else 1
theorem psL_length {l : List Bl} (hrow : Bls l) (h16 : ∀ b ∈ l, is16 b.2) (cn : Bool) : (psL l cn).length ≤ 16384 := by
  rw [psL]
  split
  · rename_i h
    have h1 := sizes_length (hasB l) cn (specC l) (specC l).length
    have h2 := (vpic_of hrow h16 h).count
    omega
  · exact Nat.zero_le _
def GivesToldI (L : List Int) (k : Int) (w : World) (e : Ending) (w' : World) : Prop :=
  ∃ A c, e = .returned (.tuple #[.slice A L.length c, .int .i64 k]) ∧ Own w' w.heap.size w'.heap.size 2 1 A L.length c (L.map (.int .i64)) ∧ Below w.heap.size w w'
theorem GivesToldI.nil {w w' : World} {k : Int} (hb : Below w.heap.size w w') : GivesToldI [] k w (.returned (.tuple #[.slice none 0 0, .int .i64 k])) w' := ⟨none, 0, rfl, ⟨rfl, .inl ⟨rfl, rfl, rfl⟩⟩, hb⟩
theorem GivesToldI.lit {w w1 : World} {k : Int} (hb : Below w.heap.size w w1) : GivesToldI [] k w (.returned (.tuple #[.slice (some ⟨w1.heap.size, 0, none⟩) 0 0, .int .i64 k])) (w1.alloc (.cells #[] 2)) := by
  have h0 := World.ownsRow_lit (e := 2) (base := w.heap.size) (size := 1) w1 #[] 0 hb.size (by unfold maxLen; omega) rfl
  obtain ⟨A, c, he, ho⟩ := Own.of_row h0
  cases he
  exact ⟨_, _, rfl, ho, hb.alloc hb.size _⟩
/-- a picture within a picture whose cells are cells -/
theorem VPic.sub {P l : List Bl} (hP : Pic P) (hl : VPic l) (h : ∀ U V, hasB P U V = true → hasB l U V = true) : VPic P := by
  have hc : ∀ b ∈ P, ∀ x y : Nat, x < 16 → y < 16 → bitB b.2 x y = true → cellB (16 * b.1.getD 0 0 + x) (16 * b.1.getD 1 0 + y) = true := fun b hb x y hx hy hbit => by
    refine hl.cells (h _ _ ?_)
    rw [has_of_mem hP.apart hb (hP.bls b hb).1 hx hy, hbit]
  refine ⟨hP, fun b hb => ?_, fun b hb => ?_, Nat.le_trans (pic_sub_length hP hl.pic h) hl.few⟩
  · obtain ⟨x, y, hx, hy, hbit⟩ := some_bit (hP.bls b hb).2 (hP.m16 b hb) (hP.noVoid b hb)
    have := cellB_in (hc b hb x y hx hy hbit)
    refine ⟨?_, ?_⟩ <;> omega
  · rw [okCells, List.all_eq_true]
    intro f hf
    have h1 : f ∈ P.flatMap bCells := List.mem_flatMap.2 ⟨b, hb, hf⟩
    rw [← (specC_perm _ P (Nat.le_refl _)).mem_iff, spec_mem hP.apart hP.bls] at h1
    exact hl.cells (h _ _ h1.2)
theorem opOr_bit {a b : List Int} (ha : a.length = 16) (hb : b.length = 16) (h1 : is16 a) (h2 : is16 b) {x y : Nat} (_hx : x < 16) (hy : y < 16) : bitB (opM orF a b) x y = (bitB a x y || bitB b x y) := by
  have e : (opM orF a b).getD y 0 = orF (a.getD y 0) (b.getD y 0) := by
    rw [opM, List.getD_eq_getElem?_getD, List.getElem?_eq_getElem (by rw [List.length_zipWith]; omega), List.getElem_zipWith]
    rw [List.getD_eq_getElem?_getD, List.getElem?_eq_getElem (by omega), List.getD_eq_getElem?_getD, List.getElem?_eq_getElem (by omega)]
    rfl
  rw [bitB_row, e, orF_bit (h1.getD y) (h2.getD y) x, bitB_row, bitB_row]
theorem join_has {a b L : List Bl} (ha : Pic a) (hb : Pic b) (h : JoinTo a b b.length L) (U V : Int) : hasB L U V = (hasB a U V || hasB b U V) := by
  obtain ⟨a1, a2⟩ := maskAt_ok ha.bls ha.m16 [U / 16, V / 16]
  obtain ⟨b1, b2⟩ := maskAt_ok hb.bls hb.m16 [U / 16, V / 16]
  rw [hasB, h.2.2, List.take_length, opOr_bit a1 b1 a2 b2 (by omega) (by omega)]
  rfl
/-- what the reference has seen -/
structure SeenS (l : List Bl) (cn : Bool) (k : Nat) (S : List Bl) : Prop where
  pic : Pic S
  iff : ∀ U V, hasB S U V = true ↔ Old (hasB l) cn ((specC l).take k) U V
theorem seen_zero (l : List Bl) (cn : Bool) : SeenS l cn 0 [] := ⟨Pic.nil, fun U V => by
  rw [has_nil]
  exact ⟨fun h => (by cases h), fun h => absurd h (old_zero _ _ _ _ _)⟩⟩
section
variable {l : List Bl} {cn : Bool} {k : Nat} {S : List Bl}
theorem SeenS.few (h : SeenS l cn k S) (hl : Pic l) : S.length ≤ l.length := pic_sub_length h.pic hl fun U V hx => by
  obtain ⟨c, _, hr⟩ := (h.iff U V).1 hx
  exact hr.has
theorem SeenS.same (h : SeenS l cn k S) (hk : k < (specC l).length) {x y : Int} (he : (specC l)[k] = [x, y]) (hh : hasB S x y = true) : SeenS l cn (k + 1) S ∧ sizesTo (hasB l) cn (specC l) (k + 1) = sizesTo (hasB l) cn (specC l) k := by
  have ho := (h.iff x y).1 hh
  have ho' : Old (hasB l) cn ((specC l).take k) (((specC l)[k]).getD 0 0) (((specC l)[k]).getD 1 0) := by rw [he]; exact ho
  exact ⟨⟨h.pic, fun U V => (h.iff U V).trans (old_same hk ho' U V).symm⟩, sizes_old hk ho'⟩
theorem SeenS.new (h : SeenS l cn k S) (hk : k < (specC l).length) {x y : Int} (he : (specC l)[k] = [x, y]) (hh : hasB S x y = false) {L : List (List Int)} (hL : PieceL (hasB l) cn x y L) {P S' : List Bl} (hP : Pic P) (hm : ∀ U V, hasB P U V = decide ([U, V] ∈ L)) (hj : JoinTo S P P.length S') : SeenS l cn (k + 1) S' ∧ sizesTo (hasB l) cn (specC l) (k + 1) = sizesTo (hasB l) cn (specC l) k ++ [(L.length : Int)] := by
  have hn : ¬ Old (hasB l) cn ((specC l).take k) x y := fun ho => by
    rw [(h.iff x y).2 ho] at hh
    cases hh
  have e0 : ((specC l)[k]).getD 0 0 = x := by rw [he]; rfl
  have e1 : ((specC l)[k]).getD 1 0 = y := by rw [he]; rfl
  refine ⟨⟨hj.1, fun U V => ?_⟩, sizes_new hk (by rw [e0, e1]; exact hn) (by rw [e0, e1]; exact hL)⟩
  rw [join_has h.pic hP hj, Bool.or_eq_true, h.iff, hm, decide_eq_true_iff, hL.iff, old_succ hk, e0, e1]
/-- the cells of the picture of a piece are as many -/
theorem piece_count {H : Int → Int → Bool} {x y : Int} {L : List (List Int)} (hL : PieceL H cn x y L) {P : List Bl} (hP : Pic P) (hm : ∀ U V, hasB P U V = decide ([U, V] ∈ L)) : (specC P).length = L.length := by
  refine List.Perm.length_eq ((List.perm_ext_iff_of_nodup (spec_nodup hP.rising) hL.nodup).2 fun c => ?_)
  rw [spec_mem hP.apart hP.bls, hm, decide_eq_true_iff]
  constructor
  · rintro ⟨h1, h2⟩
    rw [two_of h1]
    exact h2
  · intro h1
    refine ⟨hL.two c h1, ?_⟩
    rw [← two_of (hL.two c h1)]
    exact h1
end
end Go.Proofs.Ytmagaapdijapiaa
namespace Go.Proofs.Ytmagaapdijapiaa
open Go.ChangeShapes Go.WideShapes Go.ChangeAt Go.RowKit
noncomputable def oldB (H : Int → Int → Bool) (cn : Bool) (C : List (List Int)) (c : List Int) : Bool := by
  classical exact decide (Old H cn C (c.getD 0 0) (c.getD 1 0))
theorem oldB_iff {H : Int → Int → Bool} {cn : Bool} {C : List (List Int)} {c : List Int} : oldB H cn C c = true ↔ Old H cn C (c.getD 0 0) (c.getD 1 0) := by
  classical
  unfold oldB
  simp
theorem filter_or {p q r : List Int → Bool} (C : List (List Int)) (h : ∀ c ∈ C, r c = (p c || q c)) (hd : ∀ c ∈ C, ¬ (p c = true ∧ q c = true)) : (C.filter r).length = (C.filter p).length + (C.filter q).length := by
  induction C with
  | nil => rfl
  | cons c C ih =>
    have i := ih (fun d hd => h d (List.mem_cons_of_mem _ hd)) (fun d hd2 => hd d (List.mem_cons_of_mem _ hd2))
    have h1 := h c (List.mem_cons_self ..)
    have h2 := hd c (List.mem_cons_self ..)
    rw [List.filter_cons, List.filter_cons, List.filter_cons, h1]
    cases hp : p c <;> cases hq : q c
    · simpa using i
    · simp only [Bool.false_or, if_true, List.length_cons, Bool.false_eq_true, if_false]; omega
    · simp only [Bool.or_false, if_true, List.length_cons, Bool.false_eq_true, if_false]; omega
    · exact absurd ⟨hp, hq⟩ h2
/-- a list of all cells, each once -/
structure AllC (H : Int → Int → Bool) (C : List (List Int)) : Prop where
  two : ∀ c ∈ C, c.length = 2
  nodup : C.Nodup
  iff : ∀ u v, [u, v] ∈ C ↔ H u v = true
theorem AllC.of_pic {P : List Bl} (h : Pic P) : AllC (hasB P) (specC P) :=
  ⟨fun c hc => ((spec_mem h.apart h.bls c).1 hc).1, spec_nodup h.rising, fun u v => by
    rw [spec_mem h.apart h.bls]
    exact ⟨fun h => h.2, fun h => ⟨rfl, h⟩⟩⟩
section
variable {H : Int → Int → Bool} {cn : Bool} {C : List (List Int)}
theorem AllC.has (h : AllC H C) {c : List Int} (hc : c ∈ C) : H (c.getD 0 0) (c.getD 1 0) = true := (h.iff _ _).1 (by rw [← two_of (h.two c hc)]; exact hc)
theorem AllC.piece (h : AllC H C) (x y : Int) : PieceL H cn x y (C.filter fun c => reachB H cn x y (c.getD 0 0) (c.getD 1 0)) :=
  ⟨fun c hc => h.two c (List.mem_filter.1 hc).1, h.nodup.filter _, fun u v => by
    rw [List.mem_filter, h.iff]
    show H u v = true ∧ reachB H cn x y u v = true ↔ _
    rw [reachB_iff]
    exact ⟨fun h => h.2, fun h => ⟨h.has, h⟩⟩⟩
theorem AllC.sum (h : AllC H C) : ∀ k, k ≤ C.length → (sizesTo H cn C k).sum = (((C.filter fun c => oldB H cn (C.take k) c).length : Nat) : Int)
  | 0, _ => by
    have : (C.filter fun c => oldB H cn (C.take 0) c) = [] := List.filter_eq_nil_iff.2 fun c _ => by
      rw [oldB_iff]
      exact old_zero _ _ _ _ _
    rw [this]
    rfl
  | k + 1, hk => by
    have hkl : k < C.length := hk
    have ih := h.sum k (by omega)
    classical
    by_cases ho : Old H cn (C.take k) ((C[k]).getD 0 0) ((C[k]).getD 1 0)
    · rw [sizes_old hkl ho, ih]
      congr 3
      funext c
      rw [Bool.eq_iff_iff, oldB_iff, oldB_iff, old_same hkl ho]
    · have hp := h.piece (cn := cn) ((C[k]).getD 0 0) ((C[k]).getD 1 0)
      rw [sizes_new hkl ho hp, List.sum_append, ih]
      have e := filter_or (r := fun c => oldB H cn (C.take (k + 1)) c) (p := fun c => oldB H cn (C.take k) c) (q := fun c => reachB H cn ((C[k]).getD 0 0) ((C[k]).getD 1 0) (c.getD 0 0) (c.getD 1 0)) C (fun c _ => by
        rw [Bool.eq_iff_iff, Bool.or_eq_true, oldB_iff, oldB_iff, reachB_iff, old_succ hkl]) (fun c _ hb => by
        rw [oldB_iff, reachB_iff] at hb
        obtain ⟨d, hd, hr⟩ := hb.1
        exact ho ⟨d, hd, hr.trans hb.2.symm⟩)
      rw [e]
      simp
theorem AllC.sum_all (h : AllC H C) : (sizesTo H cn C C.length).sum = (C.length : Int) := by
  rw [h.sum C.length (Nat.le_refl _)]
  have : (C.filter fun c => oldB H cn (C.take C.length) c) = C := List.filter_eq_self.2 fun c hc => by
    rw [oldB_iff, List.take_length]
    exact ⟨c, hc, .start (h.has hc)⟩
  rw [this]
theorem reach_wide {x y u v : Int} (h : Reach H false x y u v) : Reach H true x y u v := by
  induction h with
  | start h => exact .start h
  | step du dv _ ha hh ih => exact .step du dv ih (adj_wide ha) hh
theorem sizes_wide (H : Int → Int → Bool) (C : List (List Int)) : ∀ k, k ≤ C.length → (sizesTo H true C k).length ≤ (sizesTo H false C k).length
  | 0, _ => Nat.le_refl _
  | k + 1, hk => by
    have hkl : k < C.length := hk
    have ih := sizes_wide H C k (by omega)
    classical
    rw [sizesTo, sizesTo]
    by_cases h1 : Old H false (C.take k) ((C.getD k []).getD 0 0) ((C.getD k []).getD 1 0)
    · have h2 : Old H true (C.take k) ((C.getD k []).getD 0 0) ((C.getD k []).getD 1 0) := by
        obtain ⟨c, hc, hr⟩ := h1
        exact ⟨c, hc, reach_wide hr⟩
      rw [if_pos h1, if_pos h2]
      exact ih
    · rw [if_neg h1]
      split
      · rw [List.length_append]; omega
      · rw [List.length_append, List.length_append]; simp only [List.length_singleton]; omega
/-- the cells of one piece reach each other within it -/
theorem reach_in {x y u v : Int} (h : Reach H cn x y u v) : Reach (reachB H cn x y) cn x y u v := by
  induction h with
  | start h => exact .start (reachB_iff.2 (.start h))
  | step du dv h1 ha hh ih => exact .step du dv ih ha (reachB_iff.2 (.step du dv h1 ha hh))
theorem own_piece {x y : Int} (hC : AllC (reachB H cn x y) C) (hxy : H x y = true) : sizesTo (reachB H cn x y) cn C C.length = [(C.length : Int)] := by
  have h0 : 0 < C.length := List.length_pos_of_mem ((hC.iff x y).2 (reachB_iff.2 (.start hxy)))
  have hl : ∀ k, 0 < k → k ≤ C.length → (sizesTo (reachB H cn x y) cn C k).length = 1 := fun k => by
    induction k with
    | zero => intro h _; omega
    | succ k ih =>
      intro _ hk
      have hkl : k < C.length := hk
      rcases Nat.eq_zero_or_pos k with rfl | hk0
      · have hp := hC.piece (cn := cn) ((C[0]).getD 0 0) ((C[0]).getD 1 0)
        rw [sizes_new hkl (old_zero _ _ _ _ _) hp]
        rfl
      · have hr : ∀ c ∈ C, Reach (reachB H cn x y) cn x y (c.getD 0 0) (c.getD 1 0) := fun c hc => reach_in (reachB_iff.1 (hC.has hc))
        have ho : Old (reachB H cn x y) cn (C.take k) ((C[k]).getD 0 0) ((C[k]).getD 1 0) :=
          ⟨C[0], List.mem_take_iff_getElem.2 ⟨0, by omega, rfl⟩, (hr _ (List.getElem_mem h0)).symm.trans (hr _ (List.getElem_mem hkl))⟩
        rw [sizes_old hkl ho]
        exact ih hk0 (by omega)
  have h1 := hl C.length h0 (Nat.le_refl _)
  have h2 := hC.sum_all (cn := cn)
  match hs : sizesTo (reachB H cn x y) cn C C.length, h1 with
  | [a], _ =>
    rw [hs] at h2
    simp at h2
    rw [h2]
/-- one piece taken away -/
theorem sizes_rest {H2 : Int → Int → Bool} {x y : Int} (hC : AllC H C) (h2 : ∀ u v, H2 u v = (H u v && !reachB H cn x y u v)) : ∀ k, k ≤ C.length →
    ∃ e : Nat, (sizesTo H cn C k).length = (sizesTo H2 cn (C.filter fun c => H2 (c.getD 0 0) (c.getD 1 0)) ((C.take k).filter fun c => H2 (c.getD 0 0) (c.getD 1 0)).length).length + e ∧ ((∃ c ∈ C.take k, Reach H cn x y (c.getD 0 0) (c.getD 1 0)) → e = 1) ∧ ((¬ ∃ c ∈ C.take k, Reach H cn x y (c.getD 0 0) (c.getD 1 0)) → e = 0)
  | 0, _ => ⟨0, rfl, fun ⟨c, hc, _⟩ => by simp at hc, fun _ => rfl⟩
  | k + 1, hk => by
    have hkl : k < C.length := hk
    obtain ⟨e, i1, i2, i3⟩ := sizes_rest hC h2 k (by omega)
    obtain ⟨F, hF⟩ : ∃ F, F = C.filter fun c => H2 (c.getD 0 0) (c.getD 1 0) := ⟨_, rfl⟩
    obtain ⟨p, hp⟩ : ∃ p : List Int → Bool, p = fun c => H2 (c.getD 0 0) (c.getD 1 0) := ⟨_, rfl⟩
    rw [← hp] at hF i1
    rw [← hF] at i1
    rw [← hp, ← hF]
    have hpre : F = (C.take k).filter p ++ (C.drop k).filter p := by rw [hF, ← List.filter_append, List.take_append_drop]
    have htk : F.take ((C.take k).filter p).length = (C.take k).filter p := by rw [hpre, List.take_left']; rfl
    have hdk : C.drop k = C[k] :: C.drop (k + 1) := List.drop_eq_getElem_cons hkl
    have hcm := List.getElem_mem hkl
    have hhc := hC.has hcm
    have hiff : ∀ u v, H2 u v = true ↔ (H u v = true ∧ ¬ Old H cn [[x, y]] u v) := fun u v => by
      rw [h2, Bool.and_eq_true, Bool.not_eq_true']
      refine and_congr_right fun _ => ?_
      rw [← Bool.not_eq_true, reachB_iff]
      refine not_congr ⟨fun h => ⟨[x, y], List.mem_singleton.2 rfl, h⟩, fun ⟨c, hc, h⟩ => ?_⟩
      rw [List.mem_singleton] at hc
      subst hc
      exact h
    classical
    rw [List.take_succ_eq_append_getElem hkl, List.filter_append]
    by_cases hin : Reach H cn x y ((C[k]).getD 0 0) ((C[k]).getD 1 0)
    · have hpf : p C[k] = false := by
        rw [hp]
        show H2 _ _ = false
        rw [h2, reachB_iff.2 hin, Bool.not_true, Bool.and_false]
      have hf1 : [C[k]].filter p = [] := by rw [List.filter_cons, hpf]; rfl
      rw [hf1, List.append_nil]
      by_cases hex : ∃ c ∈ C.take k, Reach H cn x y (c.getD 0 0) (c.getD 1 0)
      · have ho : Old H cn (C.take k) ((C[k]).getD 0 0) ((C[k]).getD 1 0) := by
          obtain ⟨c, hc, hr⟩ := hex
          exact ⟨c, hc, hr.symm.trans hin⟩
        refine ⟨e, by rw [sizes_old hkl ho]; exact i1, fun _ => i2 hex, fun hn => absurd ?_ hn⟩
        obtain ⟨c, hc, hr⟩ := hex
        exact ⟨c, List.mem_append_left _ hc, hr⟩
      · have ho : ¬ Old H cn (C.take k) ((C[k]).getD 0 0) ((C[k]).getD 1 0) := by
          rintro ⟨c, hc, hr⟩
          exact hex ⟨c, hc, hin.trans hr.symm⟩
        have he := i3 hex
        refine ⟨1, ?_, fun _ => rfl, fun hn => absurd ⟨C[k], List.mem_append_right _ (List.mem_singleton.2 rfl), hin⟩ hn⟩
        rw [sizes_new hkl ho (hC.piece _ _), List.length_append, i1, he]
        rfl
    · have hpt : p C[k] = true := by
        rw [hp]
        show H2 _ _ = true
        rw [h2, hhc, Bool.true_and, Bool.not_eq_true']
        cases hb : reachB H cn x y ((C[k]).getD 0 0) ((C[k]).getD 1 0)
        · rfl
        · exact absurd (reachB_iff.1 hb) hin
      have hf1 : [C[k]].filter p = [C[k]] := by rw [List.filter_cons, hpt]; rfl
      rw [hf1, List.length_append, List.length_singleton]
      have hFl : ((C.take k).filter p).length < F.length := by
        rw [hpre, List.length_append, hdk, List.filter_cons, hpt]
        simp
      have hFk : F[((C.take k).filter p).length] = C[k] := by
        have h5 : F[((C.take k).filter p).length]? = some C[k] := by
          rw [hpre, List.getElem?_append_right (Nat.le_refl _), Nat.sub_self, hdk, List.filter_cons, hpt]
          rfl
        rw [List.getElem?_eq_getElem hFl] at h5
        exact Option.some.inj h5
      have hAF : AllC H2 F := ⟨fun c hc => hC.two c (by rw [hF] at hc; exact (List.mem_filter.1 hc).1), by rw [hF]; exact hC.nodup.filter _, fun u v => by
        rw [hF, List.mem_filter, hC.iff, hp]
        show H u v = true ∧ H2 u v = true ↔ _
        exact ⟨fun h => h.2, fun h => ⟨((hiff u v).1 h).1, h⟩⟩⟩
      have hH2c : H2 ((C[k]).getD 0 0) ((C[k]).getD 1 0) = true := by rw [hp] at hpt; exact hpt
      have hoo : Old H2 cn (F.take ((C.take k).filter p).length) ((F[((C.take k).filter p).length]).getD 0 0) ((F[((C.take k).filter p).length]).getD 1 0) ↔ Old H cn (C.take k) ((C[k]).getD 0 0) ((C[k]).getD 1 0) := by
        rw [htk, hFk]
        constructor
        · rintro ⟨c, hc, hr⟩
          have hc2 := List.mem_filter.1 hc
          exact ⟨c, hc2.1, (reach_rest hiff (by have := hc2.2; rw [hp] at this; exact this) _ _).1 hr⟩
        · rintro ⟨c, hc, hr⟩
          have hcn : ¬ Reach H cn x y (c.getD 0 0) (c.getD 1 0) := fun h => hin (h.trans hr)
          have hpc : p c = true := by
            rw [hp]
            show H2 _ _ = true
            rw [h2, hr.has0, Bool.true_and, Bool.not_eq_true']
            cases hb : reachB H cn x y (c.getD 0 0) (c.getD 1 0)
            · rfl
            · exact absurd (reachB_iff.1 hb) hcn
          exact ⟨c, List.mem_filter.2 ⟨hc, hpc⟩, (reach_rest hiff (by rw [hp] at hpc; exact hpc) _ _).2 hr⟩
      refine ⟨e, ?_, fun hx => i2 ?_, fun hx => i3 fun ⟨c, hc, hr⟩ => hx ⟨c, List.mem_append_left _ hc, hr⟩⟩
      · by_cases ho : Old H cn (C.take k) ((C[k]).getD 0 0) ((C[k]).getD 1 0)
        · rw [sizes_old hkl ho, sizes_old hFl (hoo.2 ho)]
          exact i1
        · rw [sizes_new hkl ho (hC.piece _ _), sizes_new hFl (fun h => ho (hoo.1 h)) (hAF.piece _ _), List.length_append, List.length_append, i1]
          simp only [List.length_singleton]
          omega
      · obtain ⟨c, hc, hr⟩ := hx
        rcases List.mem_append.1 hc with hc | hc
        · exact ⟨c, hc, hr⟩
        · rw [List.mem_singleton] at hc
          subst hc
          exact absurd hr hin
end
/-- sorted lists with the same cells are one -/
theorem sorted_same {A B : List (List Int)} (hA : A.Pairwise ltL) (hB : B.Pairwise ltL) (h : ∀ c, c ∈ A ↔ c ∈ B) : A = B := by
  have nd : ∀ {L : List (List Int)}, L.Pairwise ltL → L.Nodup := fun hL => hL.imp fun {a b} hab e => by
    subst e
    exact ltL_asymm hab hab
  exact List.Perm.eq_of_pairwise (le := ltL) (fun a b _ _ h1 h2 => absurd h2 (ltL_asymm h1)) hA hB ((List.perm_ext_iff_of_nodup (nd hA) (nd hB)).2 h)
theorem rest_cells {P R : List Bl} (hP : Pic P) (hR : Pic R) {H2 : Int → Int → Bool} (h : ∀ U V, hasB R U V = H2 U V) (hsub : ∀ U V, H2 U V = true → hasB P U V = true) : specC R = (specC P).filter fun c => H2 (c.getD 0 0) (c.getD 1 0) := by
  refine sorted_same (specC_sorted _ R (Nat.le_refl _) hR.rising) (List.Pairwise.filter _ (specC_sorted _ P (Nat.le_refl _) hP.rising)) fun c => ?_
  rw [spec_mem hR.apart hR.bls, List.mem_filter, spec_mem hP.apart hP.bls, h]
  exact ⟨fun ⟨h1, h2⟩ => ⟨⟨h1, hsub _ _ h2⟩, h2⟩, fun ⟨h1, h2⟩ => ⟨h1.1, h2⟩⟩
/-- there is just one piece less -/
theorem one_less {P R : List Bl} {cn : Bool} {x y : Int} (hP : Pic P) (hR : Pic R) (hxy : hasB P x y = true) (h : ∀ U V, hasB R U V = (hasB P U V && !reachB (hasB P) cn x y U V)) :
    (sizesTo (hasB P) cn (specC P) (specC P).length).length = (sizesTo (hasB R) cn (specC R) (specC R).length).length + 1 := by
  have hC := AllC.of_pic hP
  have e := rest_cells hP hR (fun _ _ => rfl) (fun U V hh => by rw [h, Bool.and_eq_true] at hh; exact hh.1)
  obtain ⟨n, i1, i2, _⟩ := sizes_rest hC h (specC P).length (Nat.le_refl _)
  rw [List.take_length, ← e] at i1
  rw [i1, i2 ⟨[x, y], by rw [List.take_length]; exact (hC.iff x y).2 hxy, .start hxy⟩]
end Go.Proofs.Ytmagaapdijapiaa
namespace Go.Proofs.Ytmagaapdijapiaa
open Go.ChangeShapes Go.WideShapes Go.ChangeAt Go.RowKit
/-- what is told of a picture's cells -/
def cntV (l : List Bl) : Int × Int := if vpB l then (((specC l).length : Int), 0) else (0, 1)
def toldL (l : List Bl) : List (List Int) := if vpB l then (if (specC l).length ≤ 1024 then specC l else []) else []
def toldK (l : List Bl) : Int := if vpB l then (if (specC l).length ≤ 1024 then 0 else 3) else 1
def GivesToldC (L : List (List Int)) (k : Int) (w : World) (e : Ending) (w' : World) : Prop :=
  ∃ A c, e = .returned (.tuple #[.slice A L.length c, .int .i64 k]) ∧ Own w' w.heap.size w'.heap.size 60 2 A L.length c (pvs L) ∧ Below w.heap.size w w'
theorem GivesToldC.nil {w w' : World} {k : Int} (hb : Below w.heap.size w w') : GivesToldC [] k w (.returned (.tuple #[.slice none 0 0, .int .i64 k])) w' := ⟨none, 0, rfl, ⟨rfl, .inl ⟨rfl, rfl, rfl⟩⟩, hb⟩
theorem GivesToldC.lit {w w1 : World} {k : Int} (hb : Below w.heap.size w w1) : GivesToldC [] k w (.returned (.tuple #[.slice (some ⟨w1.heap.size, 0, none⟩) 0 0, .int .i64 k])) (w1.alloc (.cells #[] 60)) := by
  have h0 := World.ownsRow_lit (e := 60) (base := w.heap.size) (size := 2) w1 #[] 0 hb.size (by unfold maxLen; omega) rfl
  obtain ⟨A, c, he, ho⟩ := Own.of_row h0
  cases he
  exact ⟨_, _, rfl, ho, hb.alloc hb.size _⟩
theorem toldL_rows (l : List Bl) : Rows_ 2 (toldL l) := by
  rw [toldL]
  split
  · split
    · exact specC_rows l
    · exact fun f hf => by cases hf
  · exact fun f hf => by cases hf
theorem toldL_length (l : List Bl) : (toldL l).length ≤ 1024 := by
  rw [toldL]
  split
  · split
    · assumption
    · exact Nat.zero_le _
  · exact Nat.zero_le _
set_option maxRecDepth 20000 in
theorem iCountPicture_any (A : Option Addr) (n c : Nat) (l : List Bl) (hl : l.length = n) (hrow : Bls l) (h16 : ∀ b ∈ l, is16 b.2) (h32 : ∀ b ∈ l, ∀ x ∈ b.1, -2147483648 ≤ x ∧ x ≤ 2147483647) (hn : n ≤ 1048576) (w : World) (hR : Rd w w.heap.size 18 A n (bcs l)) :
    Calls Try.prog 41 #[.slice A n c] w fun e w' => e = .returned (.tuple #[.int .i64 (cntV l).1, .int .i64 (cntV l).2]) ∧ Below w.heap.size w w' := by
  have ho := fun W h => iValidPicture_any A n c l hl hrow h16 h32 hn W h
  have hv := fun h => vpic_of hrow h16 h
  have hc := fun h W hW => cellsOf_any A n c l hl (hv h) W hW
  have hlen := fun h => (hv h).count
  rw [cntV]
  clear hl hrow h16 h32 hv
  generalize specC l = S at *
  generalize vpB l = ok at *
  cases ok
  · clear hc
    go_enter Try.func41, Try.ntmps41
    go_wp2_with (go_at_call 33; refine (ho _ (hR.more (by first | exact Nat.le_refl _ | omega))).mono ?_; rintro e w1 ⟨rfl, b1⟩)
    go_ret2
    exact ⟨rfl, b1⟩
  · have hc' := hc rfl
    have hl' := hlen rfl
    clear hc hlen
    go_enter Try.func41, Try.ntmps41
    go_wp2_with (first
      | (go_at_call 33; refine (ho _ (hR.more (by first | exact Nat.le_refl _ | omega))).mono ?_; rintro e w1 ⟨rfl, b1⟩)
      | (go_at_call 70; refine (hc' _ ((hR.below b1 (Nat.le_refl _)).more b1.size)).mono ?_; rintro e w2 ⟨g, cc, rfl, hO, b2⟩))
    go_ret2
    exact ⟨rfl, b1.trans (b2.mono b1.size)⟩
set_option maxRecDepth 20000 in
theorem iCellsOfPicture_any (A : Option Addr) (n c : Nat) (l : List Bl) (hl : l.length = n) (hrow : Bls l) (h16 : ∀ b ∈ l, is16 b.2) (h32 : ∀ b ∈ l, ∀ x ∈ b.1, -2147483648 ≤ x ∧ x ≤ 2147483647) (hn : n ≤ 1048576) (w : World) (hR : Rd w w.heap.size 18 A n (bcs l)) :
    Calls Try.prog 32 #[.slice A n c] w (GivesToldC (toldL l) (toldK l) w) := by
  have ho := fun W h => iValidPicture_any A n c l hl hrow h16 h32 hn W h
  have hv := fun h => vpic_of hrow h16 h
  have hc := fun h W hW => cellsOf_any A n c l hl (hv h) W hW
  have hlen := fun h => (hv h).count
  rw [toldL, toldK]
  clear hl hrow h16 h32 hv
  generalize specC l = S at *
  generalize vpB l = ok at *
  cases ok
  · clear hc
    go_enter Try.func32, Try.ntmps32
    go_wp2_with (go_at_call 33; refine (ho _ (hR.more (by first | exact Nat.le_refl _ | omega))).mono ?_; rintro e w1 ⟨rfl, b1⟩)
    go_ret2
    exact GivesToldC.nil b1
  · have hc' := hc rfl
    have hl' := hlen rfl
    clear hc hlen
    simp only [if_true]
    by_cases hS : S.length ≤ 1024
    · rw [if_pos hS, if_pos hS]
      have hSI : (S.length : Int) ≤ 1024 := by omega
      go_enter Try.func32, Try.ntmps32
      go_wp2_with (first
        | (go_at_call 33; refine (ho _ (hR.more (by first | exact Nat.le_refl _ | omega))).mono ?_; rintro e w1 ⟨rfl, b1⟩)
        | (go_at_call 70; refine (hc' _ ((hR.below b1 (Nat.le_refl _)).more b1.size)).mono ?_; rintro e w2 ⟨g, cc, rfl, hO, b2⟩))
      go_ret2
      exact ⟨_, _, rfl, hO.less b1.size, b1.trans (b2.mono b1.size)⟩
    · rw [if_neg hS, if_neg hS]
      have hSI : 1024 < (S.length : Int) := by omega
      go_enter Try.func32, Try.ntmps32
      go_wp2_with (first
        | (go_at_call 33; refine (ho _ (hR.more (by first | exact Nat.le_refl _ | omega))).mono ?_; rintro e w1 ⟨rfl, b1⟩)
        | (go_at_call 70; refine (hc' _ ((hR.below b1 (Nat.le_refl _)).more b1.size)).mono ?_; rintro e w2 ⟨g, cc, rfl, hO, b2⟩))
      go_ret2
      exact GivesToldC.nil (b1.trans (b2.mono b1.size))
end Go.Proofs.Ytmagaapdijapiaa
namespace Go.Proofs.Ytmagaapdijapiaa
open Go.ChangeShapes Go.WideShapes Go.ChangeAt Go.RowKit
/-- a picture with one more cell -/
theorem pic_one (x y : Int) : ∃ Q, Pic Q ∧ ∀ U V, hasB Q U V = (decide (U = x) && decide (V = y)) := by
  have hbit : ∀ a b : Nat, bitB (setOr zr16 (y % 16).toNat (x % 16).toNat) a b = (decide (a = (x % 16).toNat) && decide (b = (y % 16).toNat)) := fun a b => by
    rw [setOr_bit rfl zr16_16 (by omega) (by omega), zr16_bit, Bool.false_or]
  refine ⟨[([x / 16, y / 16], setOr zr16 (y % 16).toNat (x % 16).toNat)], ⟨List.pairwise_singleton _ _, fun b hb => ?_, bls_one ⟨rfl, setOr_length rfl _ _⟩, fun b hb => ?_⟩, fun U V => ?_⟩
  · rw [List.mem_singleton] at hb
    subst hb
    intro e
    have h1 := hbit (x % 16).toNat (y % 16).toNat
    rw [show setOr zr16 (y % 16).toNat (x % 16).toNat = zr16 from e, zr16_bit] at h1
    simp at h1
  · rw [List.mem_singleton] at hb
    subst hb
    exact setOr_16 zr16_16 _ _
  · rw [hasB, maskAt_cons, maskAt_nil]
    by_cases e : [U / 16, V / 16] = [x / 16, y / 16]
    · rw [if_pos e, hbit, Bool.eq_iff_iff]
      simp only [List.cons.injEq, and_true] at e
      simp only [Bool.and_eq_true, decide_eq_true_iff]
      omega
    · rw [if_neg e, zr16_bit, eq_comm, Bool.and_eq_false_iff, decide_eq_false_iff_not, decide_eq_false_iff_not]
      by_cases e1 : U = x
      · refine .inr fun e2 => e ?_
        rw [e1, e2]
      · exact .inl e1
/-- there is a picture with any cells of a picture -/
theorem pic_sub {P : List Bl} (hP : Pic P) (E : Int → Int → Bool) (hE : ∀ U V, E U V = true → hasB P U V = true) : ∃ Q, Pic Q ∧ ∀ U V, hasB Q U V = E U V := by
  have hk : ∀ k, k ≤ (specC P).length → ∃ Q, Pic Q ∧ ∀ U V, hasB Q U V = (decide ([U, V] ∈ (specC P).take k) && E U V) := fun k => by
    induction k with
    | zero => exact fun _ => ⟨[], Pic.nil, fun U V => by rw [has_nil, List.take_zero]; simp⟩
    | succ k ih =>
      intro hk
      obtain ⟨Q, q1, q2⟩ := ih (by omega)
      have hm : (specC P)[k] ∈ specC P := List.getElem_mem (by omega)
      obtain ⟨x, y, hc⟩ : ∃ x y, (specC P)[k] = [x, y] := ⟨_, _, two_of ((spec_mem hP.apart hP.bls _).1 hm).1⟩
      have hkl : k < (specC P).length := by omega
      have htk : ∀ U V : Int, [U, V] ∈ (specC P).take (k + 1) ↔ [U, V] ∈ (specC P).take k ∨ (U = x ∧ V = y) := fun U V => by
        rw [take_mem_succ hkl, hc]
        simp
      cases hxy : E x y
      · refine ⟨Q, q1, fun U V => ?_⟩
        rw [q2, Bool.eq_iff_iff]
        simp only [Bool.and_eq_true, decide_eq_true_iff, htk]
        constructor
        · exact fun h => ⟨.inl h.1, h.2⟩
        · rintro ⟨h | ⟨rfl, rfl⟩, h2⟩
          · exact ⟨h, h2⟩
          · rw [hxy] at h2; cases h2
      · obtain ⟨O, o1, o2⟩ := pic_one x y
        obtain ⟨J, j1, _, j3, _⟩ := mix_pic orF orF_way q1 o1
        refine ⟨J, j1, fun U V => ?_⟩
        rw [hasOr q1 o1 j3, q2, o2, Bool.eq_iff_iff]
        simp only [Bool.or_eq_true, Bool.and_eq_true, decide_eq_true_iff, htk]
        constructor
        · rintro (h | ⟨rfl, rfl⟩)
          · exact ⟨.inl h.1, h.2⟩
          · exact ⟨.inr ⟨rfl, rfl⟩, hxy⟩
        · rintro ⟨h | h, h2⟩
          · exact .inl ⟨h, h2⟩
          · exact .inr h
  obtain ⟨Q, q1, q2⟩ := hk _ (Nat.le_refl _)
  refine ⟨Q, q1, fun U V => ?_⟩
  rw [q2, List.take_length, Bool.eq_iff_iff]
  simp only [Bool.and_eq_true, decide_eq_true_iff]
  exact ⟨fun h => h.2, fun h => ⟨(spec_mem hP.apart hP.bls _).2 ⟨rfl, hE U V h⟩, h⟩⟩
theorem picHas_sub {P : List Bl} (hP : Pic P) {E : Int → Int → Bool} (hE : ∀ U V, E U V = true → hasB P U V = true) : Pic (picHas E) ∧ ∀ U V, hasB (picHas E) U V = E U V := by
  obtain ⟨Q, q1, q2⟩ := pic_sub hP E hE
  rw [picHas_eq q1 q2]
  exact ⟨q1, q2⟩
/-- a few blocks round the middle -/
structure Small (l : List Bl) : Prop where
  pic : Pic l
  few : l.length ≤ 3
  near : ∀ b ∈ l, (-1 ≤ b.1.getD 0 0 ∧ b.1.getD 0 0 ≤ 1) ∧ (-1 ≤ b.1.getD 1 0 ∧ b.1.getD 1 0 ≤ 1)
theorem Small.vpic {l : List Bl} (h : Small l) : VPic l := vpic_of_small h.pic (by have := h.few; omega) fun b hb => by
  have := h.near b hb
  omega
theorem Small.vp {l : List Bl} (h : Small l) : vpB l = true := vp_of_vpic h.vpic
theorem Small.count {l : List Bl} (h : Small l) : (specC l).length ≤ 768 := by
  have h1 := specC_length l
  have h2 := h.few
  omega
theorem Small.nil : Small [] := ⟨Pic.nil, Nat.zero_le _, fun _b hb => (nomatch hb)⟩
theorem Small.i32 {l : List Bl} (h : Small l) : ∀ b ∈ l, ∀ x ∈ b.1, -2147483648 ≤ x ∧ x ≤ 2147483647 := fun b hb x hx => by
  have h1 := h.near b hb
  rw [two_of (h.pic.bls b hb).1] at hx
  simp only [List.mem_cons, List.not_mem_nil, or_false] at hx
  rcases hx with rfl | rfl <;> omega
theorem VPic.i32 {l : List Bl} (h : VPic l) : ∀ b ∈ l, ∀ x ∈ b.1, -2147483648 ≤ x ∧ x ≤ 2147483647 := fun b hb x hx => by
  have h1 := h.far b hb
  rw [two_of (h.pic.bls b hb).1] at hx
  simp only [List.mem_cons, List.not_mem_nil, or_false] at hx
  unfold inFar at h1
  rcases hx with rfl | rfl <;> omega
theorem cmbK_of {f : Int → Int → Int} {a b J : List Bl} (ha : vpB a = true) (hb : vpB b = true) (hJ : picOf (mixF f a b) = J) (hf : J.length ≤ 64) : cmbL f a b = J ∧ cmbK f a b = 0 := by
  rw [cmbL, cmbK, ha, hb, Bool.true_and, if_pos rfl, if_pos rfl, hJ, picR, picK, if_pos hf, if_pos hf]
  exact ⟨rfl, rfl⟩
theorem told_of {l : List Bl} (hv : vpB l = true) (hc : (specC l).length ≤ 1024) : toldL l = specC l ∧ toldK l = 0 := by
  rw [toldL, toldK, if_pos hv, if_pos hc, if_pos hv, if_pos hc]
  exact ⟨rfl, rfl⟩
/-! ### FnPieces -/
section
variable {P : List Bl} (h : Small P)
include h
theorem edge_small : edgK P = 0 ∧ VPic (edgL P) ∧ cmbL notF (edgL P) P = [] ∧ cmbK notF (edgL P) P = 0 ∧ (specC P = [] → edgL P = []) := by
  have he : edgL P = picHas (edgeB (hasB P)) := by rw [edgL, if_pos h.vp]
  have hs : ∀ U V, edgeB (hasB P) U V = true → hasB P U V = true := fun U V hh => by rw [edgeB, Bool.and_eq_true] at hh; exact hh.1
  obtain ⟨e1, e2⟩ := picHas_sub h.pic hs
  rw [← he] at e1 e2
  have hsub : ∀ U V, hasB (edgL P) U V = true → hasB P U V = true := fun U V hh => hs U V (by rw [← e2]; exact hh)
  have hv := VPic.sub e1 h.vpic hsub
  obtain ⟨J, j1, j2, j3, j4⟩ := mix_pic notF notF_way e1 h.pic
  have hJ : J = [] := pic_has j1 Pic.nil fun U V => by
    rw [hasNot e1 h.pic j3, has_nil]
    cases hh : hasB (edgL P) U V
    · rfl
    · rw [hsub U V hh]; rfl
  obtain ⟨k1, k2⟩ := cmbK_of (f := notF) (vp_of_vpic hv) h.vp j4 (by rw [hJ]; exact Nat.zero_le _)
  refine ⟨by rw [edgK, if_pos h.vp], hv, by rw [k1, hJ], k2, fun hn => pic_has e1 Pic.nil fun U V => ?_⟩
  rw [has_nil]
  cases hh : hasB (edgL P) U V
  · rfl
  · have := (spec_mem h.pic.apart h.pic.bls [U, V]).2 ⟨rfl, hsub U V hh⟩
    rw [hn] at this
    cases this
theorem sizes_small (cn : Bool) : psL P cn = sizesTo (hasB P) cn (specC P) (specC P).length ∧ (psL P cn).sum = ((specC P).length : Int) ∧ psK P = 0 := by
  have e : psL P cn = sizesTo (hasB P) cn (specC P) (specC P).length := by rw [psL, if_pos h.vp]
  exact ⟨e, by rw [e]; exact (AllC.of_pic h.pic).sum_all, by rw [psK, if_pos h.vp]⟩
theorem wide_small : (psL P true).length ≤ (psL P false).length := by
  rw [(sizes_small h true).1, (sizes_small h false).1]
  exact sizes_wide _ _ _ (Nat.le_refl _)
theorem piece_small {x y : Int} (hc : [x, y] ∈ specC P) (cn : Bool) :
    pcK P x y = 0 ∧ VPic (pcL P x y cn) ∧ hasV (pcL P x y cn) x y = (true, 0) ∧ cmbK notF P (pcL P x y cn) = 0 ∧ VPic (cmbL notF P (pcL P x y cn)) ∧
    (psL P cn).length = (psL (cmbL notF P (pcL P x y cn)) cn).length + 1 ∧ psK (cmbL notF P (pcL P x y cn)) = 0 ∧ psK (pcL P x y cn) = 0 ∧
    psL (pcL P x y cn) cn = [(cntV (pcL P x y cn)).1] ∧ (cntV (pcL P x y cn)).2 = 0 := by
  have hxy : hasB P x y = true := ((spec_mem h.pic.apart h.pic.bls [x, y]).1 hc).2
  have hcell : cellB x y = true := h.vpic.cells hxy
  have he : pcL P x y cn = picHas (reachB (hasB P) cn x y) := by rw [pcL, if_pos h.vp, if_pos hcell, if_pos hxy]
  have hs : ∀ U V, reachB (hasB P) cn x y U V = true → hasB P U V = true := fun U V hh => (reachB_iff.1 hh).has
  obtain ⟨e1, e2⟩ := picHas_sub h.pic hs
  rw [← he] at e1 e2
  have hv := VPic.sub e1 h.vpic (fun U V hh => hs U V (by rw [← e2]; exact hh))
  have hvp := vp_of_vpic hv
  generalize pcL P x y cn = S at *
  obtain ⟨J, j1, j2, j3, j4⟩ := mix_pic notF notF_way h.pic e1
  have hJ : ∀ U V, hasB J U V = (hasB P U V && !reachB (hasB P) cn x y U V) := fun U V => by rw [hasNot h.pic e1 j3, e2]
  have hJv := VPic.sub j1 h.vpic (fun U V hh => by rw [hJ, Bool.and_eq_true] at hh; exact hh.1)
  have hJp := vp_of_vpic hJv
  obtain ⟨k1, k2⟩ := cmbK_of (f := notF) h.vp hvp j4 hJv.few
  rw [k1, k2]
  have hfun : hasB S = reachB (hasB P) cn x y := funext fun U => funext fun V => e2 U V
  have hSx : hasB S x y = true := by rw [e2]; exact reachB_iff.2 (.start hxy)
  have hcnt : cntV S = (((specC S).length : Int), 0) := by rw [cntV, if_pos hvp]
  refine ⟨by rw [pcK, if_pos h.vp, if_pos hcell, if_pos hxy], hv, by rw [hasV, if_pos hvp, if_pos hcell, hSx], rfl, hJv, ?_, by rw [psK, if_pos hJp], by rw [psK, if_pos hvp], ?_, by rw [hcnt]⟩
  · rw [psL, psL, if_pos h.vp, if_pos hJp]
    exact one_less h.pic j1 hxy hJ
  · rw [hcnt, psL, if_pos hvp, hfun]
    exact own_piece (by rw [← hfun]; exact AllC.of_pic e1) hxy
end
end Go.Proofs.Ytmagaapdijapiaa
namespace Go.Proofs.Ytmagaapdijapiaa
open Go.ChangeShapes Go.WideShapes Go.ChangeAt Go.RowKit
theorem getD_mid {P Q R : List Int} {i : Nat} (hi : i < Q.length) : (P ++ (Q ++ R)).getD (P.length + i) 0 = Q.getD i 0 := by
  rw [List.getD_eq_getElem?_getD, List.getElem?_append_right (Nat.le_add_right _ _), Nat.add_sub_cancel_left, List.getElem?_append_left hi, ← List.getD_eq_getElem?_getD]
theorem wrap_mod {x : Int} (h : -2147483648 ≤ x ∧ x ≤ 2147483647) : IntKind.i32.wrap (x % 4294967296) = x := by
  rw [IntKind.wrap_i32]
  omega
theorem pmL_some {M : List Int} (hM : M.length = 16) (h16 : is16 M) (hne : M ≠ zr16) : 1 ≤ (pmL M).length := by
  cases h : pmL M with
  | nil =>
    have hd := dec_pack hM h16
    rw [h] at hd
    exact absurd hd.symm hne
  | cons x r => simp
theorem un_pack {M : List Int} (hM : M.length = 16) (h16 : is16 M) : unC (pmL M) = 0 ∧ unM (pmL M) = M := by
  have hd := dec_pack hM h16
  rw [unC, unM, hd]
  exact ⟨if_pos rfl, if_pos rfl⟩
theorem blkD_at (b : Bl) : (∀ i, i < 4 → (blkD b).getD i 0 = (four (b.1.getD 0 0 % 4294967296)).getD i 0) ∧ (∀ i, i < 4 → (blkD b).getD (4 + i) 0 = (four (b.1.getD 1 0 % 4294967296)).getD i 0) ∧ (blkD b).getD 8 0 = ((pmL b.2).length : Int) % 256 ∧ (blkD b).drop 9 = pmL b.2 := by
  refine ⟨fun i hi => ?_, fun i hi => ?_, rfl, rfl⟩
  · rcases (by omega : i = 0 ∨ i = 1 ∨ i = 2 ∨ i = 3) with rfl | rfl | rfl | rfl <;> rfl
  · rcases (by omega : i = 0 ∨ i = 1 ∨ i = 2 ∨ i = 3) with rfl | rfl | rfl | rfl <;> rfl
theorem num_four {n : Int} (h0 : 0 ≤ n) (h1 : n ≤ 4294967295) : num4 ((four n).getD 0 0) ((four n).getD 1 0) ((four n).getD 2 0) ((four n).getD 3 0) = n := num4_four (by unfold u32r; omega)
theorem rd_one (P R : List Int) (b : Bl) (hb : b.1.length = 2 ∧ b.2.length = 16) (h16 : is16 b.2) (h32 : ∀ x ∈ b.1, -2147483648 ≤ x ∧ x ≤ 2147483647) (hne : b.2 ≠ zr16) :
    okD (P ++ (blkD b ++ R)) P.length = true ∧ blkAtD (P ++ (blkD b ++ R)) P.length = b ∧ P.length + 9 + szOf (P ++ (blkD b ++ R)) P.length = P.length + (blkD b).length := by
  obtain ⟨a1, a2, a3, a4⟩ := blkD_at b
  have hl := blkD_length b
  have hp1 := pmL_some hb.2 h16 hne
  have hp2 := pmL_length b.2
  obtain ⟨u1, u2⟩ := un_pack hb.2 h16
  have hs : szOf (P ++ (blkD b ++ R)) P.length = (pmL b.2).length := by
    rw [szOf, getD_mid (by omega), a3]
    split <;> omega
  have hp : partD (P ++ (blkD b ++ R)) P.length = pmL b.2 := by
    rw [partD, hs, List.drop_append, List.drop_eq_nil_of_le (by omega), List.nil_append, Nat.add_sub_cancel_left, List.drop_append, a4, List.take_append_of_le_length (Nat.le_refl _), List.take_length]
  have n0 : numAt (P ++ (blkD b ++ R)) P.length = b.1.getD 0 0 % 4294967296 := by
    have g0 := getD_mid (P := P) (Q := blkD b) (R := R) (i := 0) (by omega)
    rw [Nat.add_zero] at g0
    rw [numAt, g0, getD_mid (by omega), getD_mid (by omega), getD_mid (by omega), a1 0 (by omega), a1 1 (by omega), a1 2 (by omega), a1 3 (by omega)]
    exact num_four (by omega) (by omega)
  have n4 : numAt (P ++ (blkD b ++ R)) (P.length + 4) = b.1.getD 1 0 % 4294967296 := by
    rw [numAt, Nat.add_assoc, Nat.add_assoc, Nat.add_assoc, getD_mid (by omega), getD_mid (by omega), getD_mid (by omega), getD_mid (by omega)]
    have q0 := a2 0 (by omega)
    have q1 := a2 1 (by omega)
    have q2 := a2 2 (by omega)
    have q3 := a2 3 (by omega)
    simp only [Nat.reduceAdd] at q0 q1 q2 q3 ⊢
    rw [q0, q1, q2, q3]
    exact num_four (by omega) (by omega)
  have hx : ∀ i, i < 2 → -2147483648 ≤ b.1.getD i 0 ∧ b.1.getD i 0 ≤ 2147483647 := fun i hi => by
    rw [List.getD_eq_getElem?_getD, List.getElem?_eq_getElem (by omega)]
    exact h32 _ (List.getElem_mem _)
  refine ⟨?_, ?_, by omega⟩
  · rw [okD, hp, u1, hs, decide_eq_true (by rw [List.length_append, List.length_append]; omega), decide_eq_true (by rw [List.length_append, List.length_append]; omega)]
    rfl
  · rw [blkAtD, corD, hp, u2, n0, n4, wrap_mod (hx 0 (by omega)), wrap_mod (hx 1 (by omega)), ← two_eq hb.1]
theorem rd_back {l : List Bl} (hB : Bls l) (h16 : ∀ b ∈ l, is16 b.2) (h32 : ∀ b ∈ l, ∀ x ∈ b.1, -2147483648 ≤ x ∧ x ≤ 2147483647) (hne : ∀ b ∈ l, b.2 ≠ zr16) :
    ∀ k, k ≤ l.length → rdTo (picD l) k = some (l.take k, (picD (l.take k)).length)
  | 0, _ => by rw [rdTo]; rfl
  | k + 1, hk => by
    have ih := rd_back hB h16 h32 hne k (by omega)
    have hm := List.getElem_mem (l := l) (n := k) (by omega)
    have hd : picD l = picD (l.take k) ++ (blkD l[k] ++ picD (l.drop (k + 1))) := by
      conv => lhs; rw [← List.take_append_drop k l, List.drop_eq_getElem_cons (by omega : k < l.length)]
      rw [picD, picD, picD, List.map_append, List.map_cons, List.flatten_append, List.flatten_cons]
    obtain ⟨e1, e2, e3⟩ := rd_one (picD (l.take k)) (picD (l.drop (k + 1))) l[k] (hB.at_ (by omega)) (h16 _ hm) (h32 _ hm) (hne _ hm)
    rw [← hd] at e1 e2 e3
    rw [rdTo_yes ih e1, e2, e3, picD_snoc (by omega), List.length_append, List.take_succ_eq_append_getElem (by omega)]
theorem pf_back {l : List Bl} (h : Small l) : pfC l = 0 ∧ rpL (pfF l) = l ∧ rpC (pfF l) = 0 := by
  have hv := h.vp
  have hf := h.few
  have hle := picD_le l
  have h8 : (picD l).length ≤ 8192 := by omega
  have hF : pfF l = packOf 2 l.length (picD l) := by rw [pfF, if_pos ⟨hv, h8⟩]
  obtain ⟨o1, o2, o3, o4⟩ := packOf_opens (kd := 2) (cn := (l.length : Int)) (d := picD l) (by omega) (by omega) h8
  rw [← hF] at o1 o2 o3 o4
  have hr := rd_back h.pic.bls h.pic.m16 h.i32 h.pic.noVoid l.length (Nat.le_refl _)
  rw [List.take_length] at hr
  refine ⟨by rw [pfC, hv, if_pos rfl, if_pos h8], rp_yes o1 o2 (by rw [o4, o3, Int.toNat_natCast]; exact hr) hv o4.symm⟩
theorem pf_255 (l : List Bl) : ∀ f ∈ pfF l, is255 f := by
  rw [pfF]
  split
  · exact packOf_255 (by omega) (picD_255 l)
  · exact fun f hf => nomatch hf
end Go.Proofs.Ytmagaapdijapiaa
namespace Go.Proofs.Ytmagaapdijapiaa
open Go.ChangeShapes Go.WideShapes Go.ChangeAt Go.RowKit
theorem run_append_nilc {P : Program} {w : World} (base : Nat) (t ty e : TypeId) (i : TypeInfo) (size : Nat) (ht : P.underlying t = some (.slice e)) (hi : P.info? e = some i)
    (v : Value) (n c : Nat) (xs : List Value) (hown : w.ownsRow base e size v n xs) : (Builtin.append_ #[t, t] ty #[v, .slice none 0 c]).run P w = .ok v w := by
  rcases hown.2 with ⟨rfl, rfl⟩ | ⟨g, cap, cur, rfl, _, _, hnc, _⟩
  · simp [Builtin.append_, run_underlying ht, sizeOf, typeInfo, hi, Builtin.lenOf, Builtin.firstCells]
  · simp [Builtin.append_, run_underlying ht, sizeOf, typeInfo, hi, Builtin.lenOf, Builtin.firstCells, hnc, storeCells]
theorem wpList_append_bytes {w : World} {ops : Array Oper} {rest : List Oper} {o : Oper} {a : Act} {Q : Exit → Act → World → Prop} (hgd : o.guard = none) (s x : Operand)
    (ho : o.op = .call { callee := .builtin .append, args := #[s, x], argTypes := #[40, 40] })
    (base : Nat) (v : Value) (n : Nat) (xs : List Value) (hs : a.eval s = v) (hown : w.ownsRow base 5 1 v n xs)
    (A2 : Option Addr) (m c : Nat) (l2 : List Int) (hx : a.eval x = .slice A2 m c) {B : Nat} (hR : Rd w B 1 A2 m (l2.map (.int .u8)))
    (h63 : n + m ≤ maxLen) (hbytes : (n + m) * 1 ≤ 140737488355328) (hbase : base ≤ w.heap.size)
    (h : ∀ v' w', w'.ownsRow base 5 1 v' (n + m) (xs ++ l2.map (.int .u8)) → w.grownBy w' v.ownBlock → wpList Try.prog ops Q rest (a.put o.dst v') w') : wpList Try.prog ops Q (o :: rest) a w := by
  obtain ⟨i, hi, hz0, hz1, hz2⟩ := info_parts Byte_info
  cases A2 with
  | none =>
    have hm : m = 0 := Nat.eq_zero_of_not_pos fun hp => by
      obtain ⟨_, _, e, _⟩ := hR.at_ hp
      cases e
    subst hm
    have hl : l2 = [] := List.eq_nil_of_length_eq_zero (by have := hR.1; rwa [List.length_map, Nat.zero_mul] at this)
    subst hl
    refine wpList_plain hgd fun K hK => ?_
    have hrun := run_append_nilc (P := Try.prog) (w := w) base 40 o.type 5 i 1 Try.underlying40 hi v n c xs hown
    unfold Oper.wp
    simp [execOp, ho, resolve, invoke, builtin, hs, hx, hrun, Result.andThen]
    exact hK _ _ (h v w (by simpa using hown) (World.grownBy.refl _ _))
  | some ad =>
    refine wpList_append_own w hgd s x 40 ho base 5 i _ 1 1 Try.underlying40 hi hz0 hz1 hz2 rfl (by decide) v n xs hs hown ad m c (l2.map (.int .u8)) hx hR.1 (fun j u hu => ?_) ints_one h63 hbytes hbase (fun v' w' h1 h2 _ => h v' w' h1 h2)
    have hl := hR.1
    have hj := (List.getElem?_eq_some_iff.1 hu).1
    obtain ⟨b, o', e, _, hc⟩ := hR.at_ (by omega)
    cases e
    have h5 := hc j u hu
    rwa [show (⟨b, o', none⟩ : Addr).add j = ⟨b, o' + j, none⟩ by unfold Addr.add; split <;> simp_all]
theorem frames_back {F : List (List Int)} (hr : Rows_ 16 F) (hn : F.length ≤ 700) : bytesOf F = F.flatten ∧ limitOf F.length = 0 ∧ outOf F.flatten = F ∧ restOf F.flatten = 0 ∧ codeOf F.flatten = 0 := by
  have hf := flat_length hr
  have hd : F.flatten.length / 16 = F.length := by rw [hf]; omega
  refine ⟨by rw [bytesOf, if_pos hn], by rw [limitOf, if_pos hn], ?_, ?_, by rw [codeOf, hd, if_pos hn]⟩
  · rw [outOf, many, hd, if_pos hn]
    have h := frs_flat hr (c := F.flatten.length) (k := F.length) (Nat.le_refl _) (by omega) (Nat.le_refl _)
    rwa [List.take_length, List.take_length] at h
  · rw [restOf, hd, if_pos hn, hf]
    omega
theorem pf_few {l : List Bl} (h : Small l) : (pfF l).length ≤ 100 := by
  have hf := h.few
  have hle := picD_le l
  rw [pfF, if_pos ⟨h.vp, by omega⟩, packOf_len, packMany]
  omega
end Go.Proofs.Ytmagaapdijapiaa
namespace Go.Proofs.Ytmagaapdijapiaa
open Go.ChangeShapes Go.WideShapes Go.ChangeAt Go.RowKit

/-- the source's block: the bytes, how many are read, the seed -/
def Src (W : World) (g : Nat) (A : Option Addr) (n c : Nat) (k : Nat) : Prop := ∃ s : Int, 0 ≤ s ∧ s < 18446744073709551616 ∧ Blk W g 157 #[.slice A n c, .int .i64 k, .int .u64 s]
theorem Src.lt {W : World} {g : Nat} {A : Option Addr} {n c k : Nat} (h : Src W g A n c k) : g < W.heap.size := by
  obtain ⟨s, _, _, h⟩ := h
  exact h.lt
theorem u64wrap (x : Int) : 0 ≤ IntKind.wrap .u64 x ∧ IntKind.wrap .u64 x < 18446744073709551616 := by
  have h : IntKind.wrap .u64 x = x % 18446744073709551616 := rfl
  omega
theorem and255 {x : Int} (h0 : 0 ≤ x) (h1 : x < 18446744073709551616) : 0 ≤ bits .and .u64 x 255 ∧ bits .and .u64 x 255 ≤ 255 := by
  obtain ⟨a, rfl⟩ := Int.eq_ofNat_of_zero_le h0
  have h := bits_and_u64_nat a 255 (by omega) (by decide)
  have h2 : a &&& 255 ≤ 255 := Nat.and_le_right
  rw [show ((255 : Nat) : Int) = 255 from rfl] at h
  rw [h]
  omega
theorem wrap64_small {x : Int} (h0 : 0 ≤ x) (h1 : x ≤ 255) : wrap64 x = x := by
  unfold wrap64
  go_num
theorem div40 {x : Int} (h0 : 0 ≤ x) (h1 : x < 18446744073709551616) : 0 ≤ x / 1099511627776 ∧ x / 1099511627776 < 18446744073709551616 := by omega
set_option maxHeartbeats 1600000 in
theorem next_any (g : Nat) (A : Option Addr) (n c : Nat) (l : List Int) (hl : l.length = n) (h255 : is255 l) (k : Nat) (hk : k < 1000000000) (hn : n ≤ 1000000000) (w : World) (hs : Src w g A n c k) (hR : Rd w g 1 A n (l.map (.int .u8))) :
    Calls Try.prog 107 #[.pointer (some ⟨g, 0, none⟩)] w fun e w' => (∃ v : Int, 0 ≤ v ∧ v ≤ 255 ∧ e = .returned (.int .i64 v)) ∧ Src w' g A n c (k + 1) ∧ w.grownBy w' (some g) := by
  obtain ⟨s, hs0, hs1, hb⟩ := hs
  have c0 : w.cell? ⟨g, 0, none⟩ = some (.slice A n c) := hb.cell 0
  have c1 : w.cell? ⟨g, 1, none⟩ = some (.int .i64 k) := hb.cell 1
  have c2 : w.cell? ⟨g, 2, none⟩ = some (.int .u64 s) := hb.cell 2
  have f1 := hb.frozen 1
  have f2 := hb.frozen 2
  by_cases hlt : k < n
  · obtain ⟨b, o, rfl, hbg, hc⟩ := hR.at_ (by omega)
    have cb := hc k (.int .u8 (l[k]'(by omega))) (by rw [List.getElem?_map, List.getElem?_eq_getElem (by omega)]; rfl)
    have hv := h255 _ (List.getElem_mem (l := l) (n := k) (by omega))
    generalize l[k]'(by omega) = v at *
    have hlt' : (k : Int) < n := by omega
    clear hc hR
    go_enter Try.func107, Try.ntmps107
    go_wp2
    go_quiet (fail)
    go_wp2
    go_quiet (fail)
    go_wp2
    go_quiet (fail)
    go_wp2
    go_ret
    refine ⟨⟨_, hv.1, hv.2, rfl⟩, ?_, ?_⟩
    · exact ⟨_, (u64wrap _).1, (u64wrap _).2, (((hb.drewN _).set_ 1 _).set_ 2 _).drewN _⟩
    · exact only_drewN (only_setCell (g := g) (p := ⟨g, 2, none⟩) (only_setCell (g := g) (p := ⟨g, 1, none⟩) (only_drewN (World.grownBy.refl _ _) _) rfl _) rfl _) _
  · have hge : (n : Int) ≤ k := by omega
    clear hR
    go_enter Try.func107, Try.ntmps107
    go_wp2
    go_quiet (fail)
    go_wp2
    go_quiet (fail)
    go_wp2
    go_ret
    obtain ⟨q0, q1⟩ := u64wrap (IntKind.wrap .u64 (IntKind.wrap .u64 (s * 6364136223846793005)) + 1442695040888963407)
    obtain ⟨p0, p1⟩ := and255 (div40 q0 q1).1 (div40 q0 q1).2
    refine ⟨⟨_, ?_, ?_, rfl⟩, ?_, ?_⟩
    · have h : wrap64 (bits .and .u64 (IntKind.wrap .u64 (IntKind.wrap .u64 (IntKind.wrap .u64 (s * 6364136223846793005)) + 1442695040888963407) / 1099511627776) 255) = bits .and .u64 (IntKind.wrap .u64 (IntKind.wrap .u64 (IntKind.wrap .u64 (s * 6364136223846793005)) + 1442695040888963407) / 1099511627776) 255 := wrap64_small p0 p1
      rw [h]; exact p0
    · have h : wrap64 (bits .and .u64 (IntKind.wrap .u64 (IntKind.wrap .u64 (IntKind.wrap .u64 (s * 6364136223846793005)) + 1442695040888963407) / 1099511627776) 255) = bits .and .u64 (IntKind.wrap .u64 (IntKind.wrap .u64 (IntKind.wrap .u64 (s * 6364136223846793005)) + 1442695040888963407) / 1099511627776) 255 := wrap64_small p0 p1
      rw [h]; exact p1
    · exact ⟨_, q0, q1, (((hb.drewN _).set_ 1 _).set_ 2 _).drewN _⟩
    · exact only_drewN (only_setCell (g := g) (p := ⟨g, 2, none⟩) (only_setCell (g := g) (p := ⟨g, 1, none⟩) (only_drewN (World.grownBy.refl _ _) _) rfl _) rfl _) _
/-- what a call of the source gives: a number, and the source has gone on by at most d bytes -/
def Gone (w : World) (g : Nat) (A : Option Addr) (n c k d : Nat) (w' : World) : Prop := (∃ k', k' ≤ k + d ∧ Src w' g A n c k') ∧ w.grownBy w' (some g)
set_option maxHeartbeats 1600000 in
theorem pick_any (m : Int) (hm1 : 2 ≤ m) (hm2 : m ≤ 200) (g : Nat) (A : Option Addr) (n c : Nat) (l : List Int) (hl : l.length = n) (h255 : is255 l) (k : Nat) (hk : k < 1000000000) (hn : n ≤ 1000000000) (w : World) (hs : Src w g A n c k) (hR : Rd w g 1 A n (l.map (.int .u8))) :
    Calls Try.prog 62 #[.pointer (some ⟨g, 0, none⟩), .int .i64 m] w fun e w' => (∃ v : Int, 0 ≤ v ∧ v < m ∧ e = .returned (.int .i64 v)) ∧ Gone w g A n c k 1 w' := by
  have hx := next_any g A n c l hl h255 k hk hn w hs hR
  have HX := Lib.hid hx
  clear hx hs hR
  go_enter Try.func62, Try.ntmps62
  go_wp2_with (go_at_call 107; refine HX.out.mono ?_; rintro e w2 ⟨⟨v, hv0, hv1, rfl⟩, hs2, hg2⟩; have HS := Lib.hid hs2; have HG := Lib.hid hg2; clear hs2 hg2)
  go_ret
  exact ⟨⟨_, Int.emod_nonneg _ (by omega), Int.emod_lt_of_pos _ (by omega), rfl⟩, ⟨k + 1, Nat.le_refl _, HS.out⟩, HG.out⟩
set_option maxHeartbeats 1600000 in
theorem one_any (m : Int) (hm1 : 2 ≤ m) (hm2 : m ≤ 200) (g : Nat) (A : Option Addr) (n c : Nat) (l : List Int) (hl : l.length = n) (h255 : is255 l) (k : Nat) (hk : k < 1000000000) (hn : n ≤ 1000000000) (w : World) (hs : Src w g A n c k) (hR : Rd w g 1 A n (l.map (.int .u8))) :
    Calls Try.prog 109 #[.pointer (some ⟨g, 0, none⟩), .int .i64 m] w fun e w' => (∃ b : Bool, e = .returned (.bool b)) ∧ Gone w g A n c k 1 w' := by
  have hx := pick_any m hm1 hm2 g A n c l hl h255 k hk hn w hs hR
  have HX := Lib.hid hx
  clear hx hs hR
  go_enter Try.func109, Try.ntmps109
  go_wp2_with (go_at_call 62; refine HX.out.mono ?_; rintro e w2 ⟨⟨v, hv0, hv1, rfl⟩, hg2⟩; have HG := Lib.hid hg2; clear hg2)
  go_ret
  exact ⟨⟨_, rfl⟩, HG.out⟩
end Go.Proofs.Ytmagaapdijapiaa
namespace Go.Proofs.Ytmagaapdijapiaa
open Go.ChangeShapes Go.WideShapes Go.ChangeAt Go.RowKit
def GivesPk (D : List Int) (w : World) (e : Ending) (w' : World) : Prop :=
  ∃ g c, e = .returned (.slice (some ⟨g, 0, none⟩) D.length c) ∧ Own w' w.heap.size w'.heap.size 5 1 (some ⟨g, 0, none⟩) D.length c (D.map (.int .u8)) ∧ Below w.heap.size w w'
theorem pm_same {M : List Int} {k : Nat} {O : List Int} {f : Nat} {s : Bool} (h : pmTo M k = (O, f, s)) (hb : bitK M k = s) : pmTo M (k + 1) = (O, f, s) := by rw [pmTo_same (by rw [h]; exact hb), h]
theorem pm_turn {M : List Int} {k r : Nat} {O : List Int} {f : Nat} {s : Bool} (h : pmTo M k = (O, f, s)) (hr : f + r = k) (hb : ¬ bitK M k = s) : pmTo M (k + 1) = (O ++ [(r : Int)], k, !s) := by
  rw [pmTo_turn (by rw [h]; exact hb), h]
  show (O ++ [((k - f : Nat) : Int)], k, !s) = _
  rw [show k - f = r by omega]
theorem pm_len {M : List Int} {k : Nat} {O : List Int} {f : Nat} {s : Bool} (h : pmTo M k = (O, f, s)) : O.length ≤ k := by
  have := pmTo_length M k
  rw [h] at this
  exact this
set_option maxRecDepth 20000 in
set_option maxHeartbeats 3200000 in
theorem sPackMask_any (M : List Int) (hM : M.length = 16) (h16 : is16 M) (w : World) :
    Calls Try.prog 45 #[.agg (ivs .u16 M)] w (GivesPk (pmL M) w) := by
  obtain ⟨i0, hi, iz0, iz1, iz2⟩ := info_parts Byte_info
  have h0 : Blk (w.alloc (.cells (ivs .u16 M) 76)) w.heap.size 76 (ivs .u16 M) := Blk.newAt rfl rfl
  have H0 := Lib.hid h0
  clear h0
  go_enter Try.func45, Try.ntmps45
  go_wp2
  go_loopw [3, 4, 5, 6] (fun v o q i wr => ∃ (k : Nat) (O : List Int) (f : Nat) (s : Bool) (r : Nat) (g cc : Nat), k ≤ 256 ∧ v = .slice (some ⟨g, 0, none⟩) O.length cc ∧ o = .bool s ∧ q = .int .i64 r ∧ i = .int .i64 k ∧ Hid (pmTo M k = (O, f, s)) ∧ Hid (f + r = k) ∧ Hid (wr.ownsRow (w.heap.size + 1) 5 1 (.slice (some ⟨g, 0, none⟩) O.length cc) O.length (O.map (.int .u8))) ∧ Hid (Blk wr w.heap.size 76 (ivs .u16 M)) ∧ w.heap.size + 1 ≤ wr.heap.size ∧ Hid (Below w.heap.size w wr)) (fun _ _ _ i _ => 256 - (intOf i).toNat)
  case atStart =>
    refine ⟨0, [], 0, false, 0, _, _, by omega, rfl, rfl, rfl, rfl, Lib.hid rfl, Lib.hid rfl, Lib.hid ?_, Lib.hid (H0.out.alloc _), by simp, Lib.hid (((Below.refl _ _).alloc (Nat.le_refl _) _).alloc (by simp) _)⟩
    have := World.ownsRow_lit (e := 5) (base := w.heap.size + 1) (size := 1) (w.alloc (.cells (ivs .u16 M) 76)) #[] 0 (by simp) (by unfold maxLen; omega) rfl
    rw [size_alloc] at this
    exact this
  case round =>
    clear H0
    obtain ⟨k, O, f, s, r, g, cc, hk, rfl, rfl, rfl, rfl, HP, HF, HO, H0, hz, HB⟩ := hrel
    have hlen := pm_len HP.out
    by_cases hlt : k < 256
    · have hkI : (k : Int) < 256 := by omega
      have hk0 : (0 : Int) ≤ k := by omega
      have hr255 : (r : Int) ≤ 255 := by have := HF.out; omega
      have hr0 : (0 : Int) ≤ r := by omega
      obtain ⟨u, hu⟩ : ∃ u : Nat, (k : Int) % 16 = u := ⟨k % 16, by omega⟩
      obtain ⟨v, hv⟩ : ∃ v : Nat, (k : Int) / 16 = v := ⟨k / 16, by omega⟩
      have HX := Lib.hid (l07Has_any w.heap.size M hM h16 u v (by omega) (by omega) wr H0.out)
      have hbk : bitB M u v = bitK M k := by rw [bitK, show k % 16 = u by omega, show k / 16 = v by omega]
      rw [hbk] at HX
      have HSM := Lib.hid (fun h => pm_same HP.out h)
      have HTN := Lib.hid (fun h => pm_turn HP.out HF.out h)
      have HF1 : Hid (f + (r + 1) = k + 1) := Lib.hid (by have := HF.out; omega)
      clear HP HF hbk
      by_cases hbs : bitK M k = s
      · have HS2 := Lib.hid (HSM.out hbs)
        rw [hbs] at HX
        clear HSM HTN hbs
        cases s
        all_goals
          go_wp2_with (go_at_call 89; refine HX.out.mono ?_; rintro e w2 ⟨rfl, hb2⟩; have hz2 := hb2.size; have HO2 := Lib.hid (own_below HO.out hb2 (Nat.le_refl _)); have H2 := Lib.hid (H0.out.below hb2 H0.out.lt); have HB2 := Lib.hid (HB.out.trans (hb2.mono (by omega))); clear hb2)
          exact ⟨⟨k + 1, O, f, _, r + 1, g, cc, by omega, rfl, rfl, by go_num, by go_num, HS2, HF1, HO2, H2, by omega, HB2⟩, by simp [intOf]; omega⟩
      · have HT2 := Lib.hid (HTN.out hbs)
        have hne : bitK M k = !s := by cases hq : bitK M k <;> cases s <;> first | rfl | exact absurd hq hbs
        rw [hne] at HX
        clear HSM HTN hbs hne HF1
        cases s
        all_goals
          go_wp2_with (first
            | (go_at_call 89; refine HX.out.mono ?_; rintro e w2 ⟨rfl, hb2⟩; have hz2 := hb2.size; have HO2 := Lib.hid (own_below HO.out hb2 (Nat.le_refl _)); have H2 := Lib.hid (H0.out.below hb2 H0.out.lt); have HB2 := Lib.hid (HB.out.trans (hb2.mono (by omega))); clear hb2; have HN2 := Lib.hid (Blk.news (k := .u8) (l := [(r : Int)]) (t := 5) (w := w2.alloc (.cells #[.int .u8 (r : Int)] 5)) (g := w2.heap.size) (Blk.newAt rfl rfl)))
            | (at_builtin; refine wpList_append_own _ rfl _ _ 40 rfl (w.heap.size + 1) 5 i0 _ 1 1 Try.underlying40 hi iz0 iz1 iz2 rfl (by decide) (.slice (some ⟨g, 0, none⟩) O.length cc) O.length _ rfl (HO2.out.alloc _) ⟨w2.heap.size, 0, none⟩ 1 1 ([(r : Int)].map (.int .u8)) rfl rfl HN2.out ints_one (by unfold maxLen; omega) (by omega) (by rw [size_alloc]; omega) ?_; intro v' w3 hown' hgrow _; rw [← List.map_append] at hown'; have HOWN := Lib.hid hown'; have HGR := Lib.hid hgrow; clear hown' hgrow))
          obtain ⟨A1, c1', hve, hOO⟩ := Own.of_row HOWN.out
          obtain ⟨g2, cur1, hA1, _⟩ := hOO.at_ (by omega)
          subst hve hA1
          have hne := fun j e => (HO2.out.lt j e).1
          exact ⟨⟨k + 1, O ++ [(r : Int)], k, _, 1, g2, c1', by omega, by rw [List.length_append]; rfl, rfl, by go_num, by go_num, HT2, Lib.hid rfl, Lib.hid (by rw [List.length_append]; exact HOWN.out), Lib.hid ((H2.out.alloc _).grown HGR.out (fun e => by have := hne _ e.symm; omega)), by have := HGR.out.size; rw [size_alloc] at this; omega, Lib.hid ((HB2.out.alloc (by omega) _).grown HGR.out (by rw [size_alloc]; omega) (fun j e => by have := hne j e; omega))⟩, by simp [intOf]; omega⟩
    · obtain rfl : k = 256 := by omega
      have HE : Hid (pmL M = O) := Lib.hid (by rw [pmL, HP.out])
      obtain ⟨A1, c1', hve, hO⟩ := Own.of_row HO.out
      cases hve
      have HOO := Lib.hid hO
      clear hO
      go_wp2
      go_ret
      exact ⟨g, cc, by rw [HE.out]; rfl, by rw [HE.out]; exact HOO.out.less (by omega), HB.out⟩
end Go.Proofs.Ytmagaapdijapiaa
namespace Go.Proofs.Ytmagaapdijapiaa
open Go.ChangeShapes Go.WideShapes Go.ChangeAt Go.RowKit
theorem only_setNew {a w : World} {row : Option Nat} (h : a.grownBy w row) {p : Addr} (hp : a.heap.size ≤ p.block) (u : Value) : a.grownBy (w.setCell p u) row :=
  ⟨h.os, h.tape, h.output, by simpa [World.setCell] using h.size, fun i hi hne => (Below.heap_setCell w p u i (by omega)).trans (h.block i hi hne)⟩
theorem Src.drew {W : World} {g : Nat} {A : Option Addr} {n c k : Nat} (h : Src W g A n c k) : Src W.drew g A n c k := by
  obtain ⟨s, h0, h1, hb⟩ := h
  exact ⟨s, h0, h1, hb.drew⟩
theorem Src.other {W W' : World} {g : Nat} {A : Option Addr} {n c k : Nat} (h : Src W g A n c k) (hb : W'.heap[g]? = W.heap[g]?) : Src W' g A n c k := by
  obtain ⟨s, h0, h1, hs⟩ := h
  exact ⟨s, h0, h1, hb.trans hs⟩
set_option maxHeartbeats 1600000 in
theorem pickB_any (g : Nat) (A : Option Addr) (n c : Nat) (l : List Int) (hl : l.length = n) (h255 : is255 l) (k : Nat) (hk : k < 900000000) (hn : n ≤ 1000000000) (w : World) (hs : Src w g A n c k) (hR : Rd w g 1 A n (l.map (.int .u8))) :
    Calls Try.prog 62 #[.pointer (some ⟨g, 0, none⟩), .int .i64 65536] w fun e w' => (∃ v : Int, 0 ≤ v ∧ v < 65536 ∧ e = .returned (.int .i64 v)) ∧ Gone w g A n c k 2 w' := by
  have hx := next_any g A n c l hl h255 k (by omega) hn w hs hR
  have HX := Lib.hid hx
  have HR := Lib.hid hR
  have hgl := hs.lt
  clear hx hs hR
  go_enter Try.func62, Try.ntmps62
  go_wp2_with fail
  refine HX.out.mono ?_
  rintro e w2 ⟨⟨v, hv0, hv1, rfl⟩, hs2, hg2⟩
  have hz2 := hg2.size
  have hR2 := HR.out.grown hg2 (by omega) (fun g' e => by cases e; omega)
  have HY := Lib.hid (next_any g A n c l hl h255 (k + 1) (by omega) hn w2 hs2 hR2)
  have HG2 := Lib.hid hg2
  clear hs2 hg2 hR2 HX HR
  go_wp2_with fail
  refine HY.out.mono ?_
  rintro e w3 ⟨⟨y, hy0, hy1, rfl⟩, hs3, hg3⟩
  have HS3 := Lib.hid hs3
  have HG3 := Lib.hid hg3
  clear hs3 hg3 HY
  go_wp2
  go_ret
  exact ⟨⟨_, Int.emod_nonneg _ (by omega), Int.emod_lt_of_pos _ (by omega), rfl⟩, ⟨⟨k + 2, by omega, HS3.out⟩, HG2.out.trans HG3.out⟩⟩
/-- the masks' blocks and the source, as they stand while a mask is made -/
structure MkR (w : World) (g : Nat) (A : Option Addr) (n c : Nat) (M : List Int) (k : Nat) (wx : World) : Prop where
  len : M.length = 16
  m16 : is16 M
  res : Blk wx w.heap.size 76 (ivs .u16 zr16)
  blk : Blk wx (w.heap.size + 1) 76 (ivs .u16 M)
  src : Src wx g A n c k
  gro : w.grownBy wx (some g)
  lt : g < w.heap.size
section
variable {w wx w2 : World} {g n c k : Nat} {A : Option Addr} {M : List Int}
theorem MkR.drew (h : MkR w g A n c M k wx) : MkR w g A n c M k wx.drew := ⟨h.len, h.m16, h.res.drew, h.blk.drew, h.src.drew, only_drew h.gro, h.lt⟩
theorem MkR.gone (h : MkR w g A n c M k wx) {d : Nat} (h2 : Gone wx g A n c k d w2) : ∃ k2, k2 ≤ k + d ∧ MkR w g A n c M k2 w2 := by
  obtain ⟨⟨k2, hk2, hs2⟩, hg2⟩ := h2
  have := h.lt
  exact ⟨k2, hk2, h.len, h.m16, h.res.grown hg2 (fun e => by cases e; omega), h.blk.grown hg2 (fun e => by cases e; omega), hs2, h.gro.trans hg2, h.lt⟩
theorem MkR.set (h : MkR w g A n c M k wx) (v : Nat) {x : Int} (h0 : 0 ≤ x) (h1 : x < 65536) : MkR w g A n c (M.set v x) k (wx.setCell ⟨w.heap.size + 1, v, none⟩ (.int .u16 x)) := by
  have := h.lt
  refine ⟨by rw [List.length_set]; exact h.len, fun y hy => ?_, h.res.far (show w.heap.size ≠ w.heap.size + 1 by omega) _, h.blk.setI _ _, ?_, only_setNew h.gro (show w.heap.size ≤ w.heap.size + 1 by omega) _, h.lt⟩
  · rcases List.mem_or_eq_of_mem_set hy with hy | rfl
    · exact h.m16 y hy
    · exact ⟨h0, h1⟩
  · exact h.src.other (Below.heap_setCell _ _ _ _ (show g ≠ w.heap.size + 1 by omega))
theorem MkR.cell (h : MkR w g A n c M k wx) {v : Nat} (hv : v < 16) : wx.cell? ⟨w.heap.size + 1, v, none⟩ = some (.int .u16 (M.getD v 0)) := h.blk.getAtG (i := v) (by rw [h.len]; exact hv)
theorem MkR.free (h : MkR w g A n c M k wx) (v : Nat) : wx.frozen? ⟨w.heap.size + 1, v, none⟩ = false := h.blk.frozen v
end
theorem or16 (a b : Int) : 0 ≤ bits .or .u16 a b ∧ bits .or .u16 a b < 65536 := wrap16 _
set_option maxRecDepth 20000 in
set_option maxHeartbeats 6400000 in
theorem l07Mask_any (g : Nat) (A : Option Addr) (n c : Nat) (l : List Int) (hl : l.length = n) (h255 : is255 l) (k : Nat) (hk : k < 700000000) (hn : n ≤ 1000000000) (w : World) (hs : Src w g A n c k) (hR : Rd w g 1 A n (l.map (.int .u8))) :
    Calls Try.prog 64 #[.pointer (some ⟨g, 0, none⟩)] w fun e w' => (∃ M : List Int, M.length = 16 ∧ is16 M ∧ e = .returned (.agg (ivs .u16 M))) ∧ Gone w g A n c k 40 w' := by
  have hgl := hs.lt
  have HP : Hid (∀ (m : Int), 2 ≤ m → m ≤ 200 → ∀ (M : List Int) (k' : Nat) (W : World), k' ≤ k + 40 → MkR w g A n c M k' W → Calls Try.prog 62 #[.pointer (some ⟨g, 0, none⟩), .int .i64 m] W fun e w' => (∃ v : Int, 0 ≤ v ∧ v < m ∧ e = .returned (.int .i64 v)) ∧ Gone W g A n c k' 1 w') := Lib.hid (fun m h1 h2 _ k' W hk' h' => pick_any m h1 h2 g A n c l hl h255 k' (by omega) hn W h'.src (hR.grown h'.gro (by omega) (fun g' e => by cases e; omega)))
  have HB : Hid (∀ (M : List Int) (k' : Nat) (W : World), k' ≤ k + 40 → MkR w g A n c M k' W → Calls Try.prog 62 #[.pointer (some ⟨g, 0, none⟩), .int .i64 65536] W fun e w' => (∃ v : Int, 0 ≤ v ∧ v < 65536 ∧ e = .returned (.int .i64 v)) ∧ Gone W g A n c k' 2 w') := Lib.hid (fun _ k' W hk' h' => pickB_any g A n c l hl h255 k' (by omega) hn W h'.src (hR.grown h'.gro (by omega) (fun g' e => by cases e; omega)))
  have HO : Hid (∀ (M : List Int) (k' : Nat) (W : World), k' ≤ k + 40 → MkR w g A n c M k' W → Calls Try.prog 109 #[.pointer (some ⟨g, 0, none⟩), .int .i64 3] W fun e w' => (∃ b : Bool, e = .returned (.bool b)) ∧ Gone W g A n c k' 1 w') := Lib.hid (fun _ k' W hk' h' => one_any 3 (by decide) (by decide) g A n c l hl h255 k' (by omega) hn W h'.src (hR.grown h'.gro (by omega) (fun g' e => by cases e; omega)))
  have h0 : MkR w g A n c zr16 k ((w.alloc (.cells (ivs .u16 zr16) 76)).alloc (.cells (ivs .u16 zr16) 76)) :=
    ⟨rfl, zr16_16, (Blk.newAt rfl rfl).alloc _, Blk.newAt (by simp) rfl, hs.other (((Below.heap_alloc _ _ _ (by simp; omega)).trans (Below.heap_alloc _ _ _ hgl))), only_alloc (only_alloc (World.grownBy.refl _ _) _) _, hgl⟩
  have H0 := Lib.hid h0
  clear h0 hR hs
  go_enter Try.func64, Try.ntmps64
  go_upto_block 0 with (go_at_call 62; refine (HP.out 4 (by decide) (by decide) _ _ _ (by omega) H0.out).mono ?_; rintro e w2 ⟨⟨r, hr0, hr1, rfl⟩, hg2⟩; obtain ⟨k2, hk2, h2⟩ := H0.out.gone hg2; have H2 := Lib.hid h2; clear h2 hg2)
  clear H0
  go_cut [4, 5, 6, 7, 8] from 12 to 65 (fun _ _ _ _ _ wx => ∃ (M : List Int) (k' : Nat), k' ≤ k + 40 ∧ Hid (MkR w g A n c M k' wx))
  case first =>
    have hcs : r = 0 ∨ r = 1 ∨ r = 2 ∨ r = 3 := by omega
    rcases hcs with rfl | rfl | rfl | rfl
    · go_wp2_with (go_at_call 62; refine (HP.out 6 (by decide) (by decide) _ _ _ (by omega) H2.out).mono ?_; rintro e w3 ⟨⟨q, hq0, hq1, rfl⟩, hg3⟩; obtain ⟨k3, hk3, h3⟩ := H2.out.gone hg3; have H3 := Lib.hid h3; clear h3 hg3)
      obtain ⟨q', rfl⟩ := Int.eq_ofNat_of_zero_le hq0
      clear H2 hq0
      go_loopw [4] (fun v wr => ∃ (j : Nat) (M : List Int) (k' : Nat), j ≤ 5 ∧ v = .int .i64 j ∧ k' + 2 * j ≤ k + 12 ∧ Hid (MkR w g A n c M k' wr)) (fun v _ => (intOf v).toNat)
      case atStart => exact ⟨q', zr16, k3, by omega, rfl, by omega, H3⟩
      case round =>
        clear H3
        obtain ⟨j, M, k', hj, rfl, hkk, HM⟩ := hrel
        by_cases hj0 : 0 < j
        · have hji : (0 : Int) < j := by omega
          go_upto_block 2 with fail
          go_cut [4] from 20 to 29 (fun v wx => v = .int .i64 j ∧ ∃ (M : List Int) (k2 : Nat), k2 ≤ k' + 2 ∧ Hid (MkR w g A n c M k2 wx))
          case first =>
            go_wp2_with fail
            go_region_with (first
              | (go_at_call 62; refine (HP.out 16 (by decide) (by decide) M k5 w5 (by omega) H5.out).mono ?_; rintro e w6 ⟨⟨u, hu0, hu1, rfl⟩, hg6⟩; obtain ⟨k6, hk6, h6⟩ := H5.out.gone hg6; obtain ⟨u', rfl⟩ := Int.eq_ofNat_of_zero_le hu0; have c6 := h6.cell (v := v') (by omega); have f6 := h6.free v'; have hwu : IntKind.u64.wrap (u' : Int) = u' := (by have h : IntKind.u64.wrap (u' : Int) = (u' : Int) % 18446744073709551616 := rfl; omega); have H6 := Lib.hid h6; clear h6 hg6)
              | (go_at_call 62; refine (HP.out 16 (by decide) (by decide) M k' wr.drew (by omega) HM.out.drew).mono ?_; rintro e w5 ⟨⟨v, hv0, hv1, rfl⟩, hg5⟩; obtain ⟨k5, hk5, h5⟩ := HM.out.drew.gone hg5; obtain ⟨v', rfl⟩ := Int.eq_ofNat_of_zero_le hv0; have c5 := h5.cell (v := v') (by omega); have f5 := h5.free v'; have H5 := Lib.hid h5; clear h5 hg5))
            all_goals
              go_wp2_with fail
              go_meet
              exact ⟨rfl, _, k6, by omega, Lib.hid (H6.out.set v' (or16 _ _).1 (or16 _ _).2)⟩
          case rest =>
            obtain ⟨rfl, M2, k2, hk2', HM2⟩ := hcut
            go_wp2
            exact ⟨⟨j - 1, M2, k2, by omega, by go_num, by omega, HM2⟩, by simp [intOf]; omega⟩
        · obtain rfl : j = 0 := by omega
          go_wp2_with fail
          go_meet
          exact ⟨M, k', by omega, HM⟩
    · go_wp2_with fail
      go_loopw [5] (fun v wr => ∃ (y : Nat) (M : List Int) (k' : Nat), y ≤ 16 ∧ v = .int .i64 y ∧ k' ≤ k + 1 + 2 * y ∧ Hid (MkR w g A n c M k' wr)) (fun v _ => 16 - (intOf v).toNat)
      case atStart => exact ⟨0, zr16, k2, by omega, rfl, by omega, H2⟩
      case round =>
        clear H2
        obtain ⟨y, M, k', hy, rfl, hkk, HM⟩ := hrel
        by_cases hy0 : y < 16
        · have hyi : (y : Int) < 16 := by omega
          go_wp2_with (go_at_call 62; refine (HB.out M k' _ (by omega) HM.out).mono ?_; rintro e w5 ⟨⟨v, hv0, hv1, rfl⟩, hg5⟩; obtain ⟨k5, hk5, h5⟩ := HM.out.gone hg5; have c5 := h5.cell (v := y) (by omega); have f5 := h5.free y; have hwv : IntKind.u16.wrap v = v := (by rw [IntKind.wrap_u16]; omega); have H5 := Lib.hid h5; clear h5 hg5)
          exact ⟨⟨y + 1, _, k5, by omega, by go_num, by omega, Lib.hid (H5.out.set y hv0 hv1)⟩, by simp [intOf]; omega⟩
        · obtain rfl : y = 16 := by omega
          go_wp2_with fail
          go_meet
          exact ⟨M, k', by omega, HM⟩
    · go_wp2_with (first
        | (go_at_call 62; refine (HP.out 8 (by decide) (by decide) _ k3 w3 (by omega) H3.out).mono ?_; rintro e w4 ⟨⟨y, hy0, hy1, rfl⟩, hg4⟩; obtain ⟨k4, hk4, h4⟩ := H3.out.gone hg4; have H4 := Lib.hid h4; clear h4 hg4)
        | (go_at_call 62; refine (HP.out 10 (by decide) (by decide) _ k2 w2 (by omega) H2.out).mono ?_; rintro e w3 ⟨⟨x, hx0, hx1, rfl⟩, hg3⟩; obtain ⟨k3, hk3, h3⟩ := H2.out.gone hg3; have hwx : IntKind.u64.wrap x = x := (by have h : IntKind.u64.wrap x = x % 18446744073709551616 := rfl; omega); have H3 := Lib.hid h3; clear h3 hg3))
      obtain ⟨x', rfl⟩ := Int.eq_ofNat_of_zero_le hx0
      obtain ⟨y', rfl⟩ := Int.eq_ofNat_of_zero_le hy0
      clear H2 H3
      go_loopw [7] (fun v wr => ∃ (y : Nat) (M : List Int), y ≤ 16 ∧ v = .int .i64 y ∧ Hid (MkR w g A n c M k4 wr)) (fun v _ => 16 - (intOf v).toNat)
      case atStart => exact ⟨y', zr16, by omega, rfl, H4⟩
      case round =>
        clear H4
        obtain ⟨y, M, hy, rfl, HM⟩ := hrel
        by_cases hyl : y < 16
        · have hyi : (y : Int) < 16 := by omega
          have c5 := HM.out.cell (v := y) hyl
          have f5 := HM.out.free y
          go_wp2
          exact ⟨⟨y + 1, _, by omega, by go_num, Lib.hid (HM.out.set y (wrap16 _).1 (wrap16 _).2)⟩, by simp [intOf]; omega⟩
        · obtain rfl : y = 16 := by omega
          go_wp2_with fail
          go_meet
          exact ⟨M, k4, by omega, HM⟩
    · go_wp2_with (go_at_call 109; refine (HO.out _ k2 w2 (by omega) H2.out).mono ?_; rintro e w3 ⟨⟨b, rfl⟩, hg3⟩; obtain ⟨k3, hk3, h3⟩ := H2.out.gone hg3; have H3 := Lib.hid h3; clear h3 hg3; cases b)
      · go_wp2_with fail
        go_meet
        exact ⟨_, k3, by omega, H3⟩
      · go_wp2_with fail
        clear H2
        go_loopw [8] (fun v wr => ∃ (y : Nat) (M : List Int), y ≤ 16 ∧ v = .int .i64 y ∧ Hid (MkR w g A n c M k3 wr)) (fun v _ => 16 - (intOf v).toNat)
        case atStart => exact ⟨0, zr16, by omega, rfl, H3⟩
        case round =>
          clear H3
          obtain ⟨y, M, hy, rfl, HM⟩ := hrel
          by_cases hyl : y < 16
          · have hyi : (y : Int) < 16 := by omega
            have c5 := HM.out.cell (v := y) hyl
            have f5 := HM.out.free y
            go_wp2
            exact ⟨⟨y + 1, _, by omega, by go_num, Lib.hid (HM.out.set y (by decide) (by decide))⟩, by simp [intOf]; omega⟩
          · obtain rfl : y = 16 := by omega
            go_wp2_with fail
            go_meet
            exact ⟨M, k3, by omega, HM⟩
  case rest =>
    obtain ⟨M, k', hk', HM⟩ := hcut
    have hM := HM.out.len
    go_wp2_with (first
      | refine wpList_load_row rfl _ _ rfl (w.heap.size + 1) rfl 76 (ivs .u16 M) (0, 0) _ HM.out.blk Try.underlying76 rfl (by rw [ivs_size, hM]; exact size76) ?_
      | refine wpList_store_row rfl _ _ _ rfl w.heap.size (ivs .u16 M) rfl rfl 76 (ivs .u16 zr16) HM.out.res (by rw [ivs_size, hM]; exact size76) (by first | (rw [ivs_size, ivs_size, hM]; rfl) | rw [ivs_size, ivs_size, hM]) ivs_one ?_)
    refine bodyPost_ret (results_cell_row rfl _ _ w.heap.size 76 (ivs .u16 M) (0, 0) _ rfl (HM.out.res.row _) Try.underlying76 rfl (by rw [ivs_size, hM]; exact size76)) rfl ⟨⟨M, hM, HM.out.m16, rfl⟩, ⟨k', by omega, HM.out.src.other ?_⟩, ?_⟩
    · exact setRow_other _ _ _ _ (by have := HM.out.lt; omega)
    · exact ⟨HM.out.gro.os, HM.out.gro.tape, HM.out.gro.output, by rw [size_setRow]; exact HM.out.gro.size, fun i hi hne => (setRow_other _ _ _ _ (by omega)).trans (HM.out.gro.block i hi hne)⟩
end Go.Proofs.Ytmagaapdijapiaa
namespace Go.Proofs.Ytmagaapdijapiaa
open Go.ChangeShapes Go.WideShapes Go.ChangeAt Go.RowKit
theorem l00FromY_any (A : Option Addr) (n c : Nat) (w : World) :
    Calls Try.prog 61 #[.slice A n c] w fun e w' => e = .returned (.pointer (some ⟨w.heap.size, 0, none⟩)) ∧ Src w' w.heap.size A n c 0 ∧ Below w.heap.size w w' := by
  go_enter Try.func61, Try.ntmps61
  go_wp2
  go_ret
  exact ⟨rfl, ⟨0, by omega, by omega, Blk.newAt rfl rfl⟩, (Below.refl _ _).alloc (Nat.le_refl _) _⟩
theorem near_added {l l' : List Bl} {X Y : Int} {M : List Int} (hl : Small l) (hf : l.length ≤ 2) (hX : -1 ≤ X ∧ X ≤ 1) (hY : -1 ≤ Y ∧ Y ≤ 1) (h : Added l [X, Y] M l') : Small l' ∧ l'.length ≤ l.length + 1 := by
  obtain ⟨h1, h2, h3⟩ := h
  refine ⟨⟨h1, by omega, fun b hb => ?_⟩, h2⟩
  have hm := maskAt_of_mem h1.apart hb
  rw [h3] at hm
  by_cases e : b.1 = [X, Y]
  · rw [e]
    exact ⟨hX, hY⟩
  · rw [if_neg e] at hm
    have hne : maskAt l b.1 ≠ zr16 := by rw [hm]; exact h1.noVoid b hb
    have hmem := mem_of_maskAt hne
    have := hl.near _ hmem
    exact this
section
attribute [local go_sem ↓] exec_ldCorner
attribute [local go_sem] run_ldCorner
set_option maxRecDepth 20000 in
set_option maxHeartbeats 6400000 in
theorem A2Picture_any (A : Option Addr) (n c : Nat) (l : List Int) (hl : l.length = n) (h255 : is255 l) (hn : n ≤ 1000000) (w : World) (hR : Rd w w.heap.size 1 A n (l.map (.int .u8))) :
    Calls Try.prog 22 #[.slice A n c] w fun e w' => ∃ (P : List Bl) (A' : Option Addr) (c' : Nat), Small P ∧ e = .returned (.slice A' P.length c') ∧ Own w' w.heap.size w'.heap.size 78 18 A' P.length c' (bcs P) ∧ Below w.heap.size w w' := by
  have HR := Lib.hid hR
  have HPK : Hid (∀ (m : Int), 2 ≤ m → m ≤ 200 → ∀ (k : Nat) (W : World), k ≤ 1000 → Src W w.heap.size A n c k → Below w.heap.size w W → Calls Try.prog 62 #[.pointer (some ⟨w.heap.size, 0, none⟩), .int .i64 m] W fun e w' => (∃ v : Int, 0 ≤ v ∧ v < m ∧ e = .returned (.int .i64 v)) ∧ Gone W w.heap.size A n c k 1 w') := Lib.hid (fun m h1 h2 k W hk hs hb => pick_any m h1 h2 w.heap.size A n c l hl h255 k (by omega) (by omega) W hs (hR.below hb (Nat.le_refl _)))
  have HMK : Hid (∀ (k : Nat) (W : World), k ≤ 1000 → Src W w.heap.size A n c k → Below w.heap.size w W → Calls Try.prog 64 #[.pointer (some ⟨w.heap.size, 0, none⟩)] W fun e w' => (∃ M : List Int, M.length = 16 ∧ is16 M ∧ e = .returned (.agg (ivs .u16 M))) ∧ Gone W w.heap.size A n c k 40 w') := Lib.hid (fun k W hk hs hb => l07Mask_any w.heap.size A n c l hl h255 k (by omega) (by omega) W hs (hR.below hb (Nat.le_refl _)))
  clear hR hl h255
  go_enter Try.func22, Try.ntmps22
  go_wp2_with (first
    | (go_at_call 61; refine (l00FromY_any A n c w).mono ?_; rintro e w1 ⟨rfl, hs1, hb1⟩; have hz1 := hs1.lt; have HS1 := Lib.hid (hs1.other (W' := w1.alloc (.cells #[] 78)) (Below.heap_alloc _ _ _ hs1.lt)); have B1 := Lib.hid (hb1.alloc (show w.heap.size ≤ w1.heap.size by omega) (.cells #[] 78)); have O1 : Hid (Own (w1.alloc (.cells #[] 78)) (w.heap.size + 1) (w1.alloc (.cells #[] 78)).heap.size 78 18 (some ⟨w1.heap.size, 0, none⟩) 0 0 (bcs [])) := Lib.hid ⟨rfl, .inr ⟨w1.heap.size, #[], rfl, by omega, by rw [size_alloc]; omega, Blk.newAt rfl rfl, Nat.le_refl _, by unfold maxLen; omega, rfl, rfl⟩⟩; clear hs1 hb1)
    | (go_at_call 62; refine (HPK.out 4 (by decide) (by decide) 0 _ (by omega) HS1.out B1.out).mono ?_; rintro e w2 ⟨⟨q, hq0, hq1, rfl⟩, ⟨⟨k2, hk2, hs2⟩, hg2⟩⟩; have HS2 := Lib.hid hs2; have HG2 := Lib.hid hg2; clear hs2 hg2))
  obtain ⟨q', rfl⟩ := Int.eq_ofNat_of_zero_le hq0
  have hzz := HG2.out.size
  have B2 : Hid (Below w.heap.size w w2) := Lib.hid (B1.out.grown HG2.out (by rw [size_alloc]; omega) (fun g e => by cases e; omega))
  have O2 : Hid (Own w2 (w.heap.size + 1) w2.heap.size 78 18 (some ⟨w1.heap.size, 0, none⟩) 0 0 (bcs [])) := Lib.hid ((O1.out.grown HG2.out (fun g e => by cases e; omega)).more hzz)
  clear HS1 B1 O1 HG2 hzz
  go_loopw [4, 5] (fun v i wr => ∃ (j k : Nat) (P : List Bl) (A' : Option Addr) (m c' : Nat), j ≤ 3 ∧ i = .int .i64 j ∧ v = .slice A' m c' ∧ m = P.length ∧ P.length + j ≤ 3 ∧ k + 50 * j ≤ 200 ∧ Hid (Small P) ∧ Hid (Own wr (w.heap.size + 1) wr.heap.size 78 18 A' m c' (bcs P)) ∧ Hid (Src wr w.heap.size A n c k) ∧ Hid (Below w.heap.size w wr)) (fun _ i _ => (intOf i).toNat)
  case atStart => exact ⟨q', k2, [], _, 0, 0, by omega, rfl, rfl, rfl, by simp; omega, by omega, Lib.hid Small.nil, O2, HS2, B2⟩
  case round =>
    clear O2 HS2 B2
    obtain ⟨j, k, P, A', m, c', hj, rfl, rfl, rfl, hPj, hkk, HS, HO, HSR, HB⟩ := hrel
    by_cases hj0 : 0 < j
    · have hji : (0 : Int) < j := by omega
      go_upto_block 1 with fail
      go_cut [4, 6] from 16 to 29 (fun v _ wx => ∃ (k2 : Nat) (P2 : List Bl) (A2 : Option Addr) (m2 c2 : Nat), v = .slice A2 m2 c2 ∧ m2 = P2.length ∧ P2.length + j ≤ 4 ∧ k2 ≤ k + 50 ∧ Hid (Small P2) ∧ Hid (Own wx (w.heap.size + 1) wx.heap.size 78 18 A2 m2 c2 (bcs P2)) ∧ Hid (Src wx w.heap.size A n c k2) ∧ Hid (Below w.heap.size w wx))
      case first =>
        have hwlt := HSR.out.lt
        go_upto_region 7 with (first
          | (go_at_call 62; refine (HPK.out 3 (by decide) (by decide) k3 w3 (by omega) HS3.out B3.out).mono ?_; rintro e w4 ⟨⟨y, hy0, hy1, rfl⟩, ⟨⟨k4, hk4, hs4⟩, hg4⟩⟩; have z4 := hg4.size; have HS4 := Lib.hid hs4; have B4 := Lib.hid (B3.out.grown hg4 (by omega) (fun g e => by cases e; omega)); have O4 := Lib.hid ((O3.out.grown hg4 (fun g e => by cases e; omega)).more z4); have hwy : IntKind.i32.wrap y = y := (by rw [IntKind.wrap_i32]; omega); have hwy1 : IntKind.i32.wrap (y - 1) = y - 1 := (by rw [IntKind.wrap_i32]; omega); clear hs4 hg4)
          | (go_at_call 62; refine (HPK.out 3 (by decide) (by decide) k wr (by omega) HSR.out HB.out).mono ?_; rintro e w3 ⟨⟨x, hx0, hx1, rfl⟩, ⟨⟨k3, hk3, hs3⟩, hg3⟩⟩; have z3 := hg3.size; have HS3 := Lib.hid hs3; have B3 := Lib.hid (HB.out.grown hg3 (by omega) (fun g e => by cases e; omega)); have O3 := Lib.hid ((HO.out.grown hg3 (fun g e => by cases e; omega)).more z3); have hwx : IntKind.i32.wrap x = x := (by rw [IntKind.wrap_i32]; omega); have hwx1 : IntKind.i32.wrap (x - 1) = x - 1 := (by rw [IntKind.wrap_i32]; omega); clear hs3 hg3))
        have hX : -1 ≤ x - 1 ∧ x - 1 ≤ 1 := by omega
        have hY : -1 ≤ y - 1 ∧ y - 1 ≤ 1 := by omega
        have HXY := Lib.hid (And.intro hX hY)
        clear hX hY HO HSR HB HS3 B3 O3 hwx hwy hwx1 hwy1
        generalize x - 1 = X at *
        generalize y - 1 = Y at *
        have K7 : Hid (Blk (w4.alloc (.cells #[.int .i32 X, .int .i32 Y] 63)) w4.heap.size 63 (ivs .i32 [X, Y])) := Lib.hid (Blk.newAt rfl rfl)
        have S7 := Lib.hid (HS4.out.other (W' := w4.alloc (.cells #[.int .i32 X, .int .i32 Y] 63)) (Below.heap_alloc _ _ _ HS4.out.lt))
        have B7 := Lib.hid (B4.out.alloc B4.out.size (.cells #[.int .i32 X, .int .i32 Y] 63))
        have O7 : Hid (Own (w4.alloc (.cells #[.int .i32 X, .int .i32 Y] 63)) (w.heap.size + 1) (w4.alloc (.cells #[.int .i32 X, .int .i32 Y] 63)).heap.size 78 18 A' P.length c' (bcs P)) := Lib.hid ((O4.out.below ((Below.refl _ _).alloc (Nat.le_refl _) _) (Nat.le_refl _)).more (by rw [size_alloc]; omega))
        have z7 : w4.heap.size < (w4.alloc (.cells #[.int .i32 X, .int .i32 Y] 63)).heap.size := by rw [size_alloc]; omega
        have hw4 := B4.out.size
        have hl4 := HS4.out.lt
        clear HS4 B4 O4
        generalize w4.alloc (.cells #[.int .i32 X, .int .i32 Y] 63) = w7 at *
        have r1 : rowAt w7.drew w4.heap.size 0 2 = #[.int .i32 X, .int .i32 Y] := K7.out.drew.rowAt_eq rfl
        have r2 : hasRow w7.drew w4.heap.size 0 2 = true := K7.out.drew.hasRow_eq rfl
        go_region_law (go_simp; first
          | (go_at_call 63; refine (l07Add_own A' P.length c' P rfl HS.out.pic (by omega) X Y M hM h16 (w.heap.size + 1) w8 (by omega) O8.out).mono ?_; rintro e w9 ⟨A9, c9, l9, rfl, hadd, hO9, hb9⟩; have HADD := Lib.hid hadd; have O9 := Lib.hid hO9; have S9 := Lib.hid (S8.out.other (hb9.block _ S8.out.lt)); have B9 := Lib.hid (B8.out.trans (hb9.mono (by omega))); clear hadd hO9 hb9)
          | (go_at_call 64; refine (HMK.out k4 w7.drew (by omega) S7.out.drew (below_drew B7.out)).mono ?_; rintro e w8 ⟨⟨M, hM, h16, rfl⟩, ⟨⟨k8, hk8, hs8⟩, hg8⟩⟩; have z8 : w7.heap.size ≤ w8.heap.size := hg8.size; have K8 := K7.out.drew.grown hg8 (fun e => by have := Option.some.inj e; omega); have r5 : rowAt w8 w4.heap.size 0 2 = #[.int .i32 X, .int .i32 Y] := K8.rowAt_eq rfl; have r6 : hasRow w8 w4.heap.size 0 2 = true := K8.hasRow_eq rfl; have S8 := Lib.hid hs8; have B8 := Lib.hid ((below_drew B7.out).grown hg8 (by show w.heap.size ≤ w7.heap.size; omega) (fun g e => by have := Option.some.inj e; omega)); have O8 := Lib.hid ((O7.out.drew.grown hg8 (fun g e => by have := Option.some.inj e; omega)).more z8); clear hs8 hg8 K8))
        all_goals
          go_wp2_with fail
          go_meet
          obtain ⟨n1, n2⟩ := near_added HS.out (by omega) HXY.out.1 HXY.out.2 HADD.out
          exact ⟨k8, l9, A9, l9.length, c9, rfl, rfl, by omega, by omega, Lib.hid n1, O9, S9, B9⟩
      case rest =>
        obtain ⟨k2, P2, A2, m2, c2, rfl, rfl, hp2, hk2', HS2, HO2, HSR2, HB2⟩ := hcut
        go_wp2
        exact ⟨⟨j - 1, k2, P2, A2, _, c2, by omega, by go_num, rfl, rfl, by omega, by omega, HS2, HO2, HSR2, HB2⟩, by simp [intOf]; omega⟩
    · obtain rfl : j = 0 := by omega
      go_wp2
      go_ret
      exact ⟨P, A', c', HS.out, rfl, HO.out.less (by omega), HB.out⟩
end
end Go.Proofs.Ytmagaapdijapiaa
