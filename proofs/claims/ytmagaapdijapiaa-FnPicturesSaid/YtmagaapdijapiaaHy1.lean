/- Tk, Tl, Qa, Qp, Yr, Cn, Gq, Fo, Yq, Pf, Gs, FrA in one text. -/
import Derived.Test.YtmagaapdijapiaaRows
import Derived.Test.YtmagaapdijapiaaEi
import Derived.Test.YtmagaapdijapiaaMk
import Derived.StillTailTactics
import Derived.Test.YtmagaapdijapiaaCo
import Derived.Test.YtmagaapdijapiaaCz
import Derived.Test.YtmagaapdijapiaaYp
import Derived.Test.YtmagaapdijapiaaTv
import Derived.Test.YtmagaapdijapiaaPw
import Derived.Test.YtmagaapdijapiaaBase
namespace Go.Proofs.Ytmagaapdijapiaa
open Go.ChangeShapes Go.WideShapes Go.ChangeAt Go.RowKit
/-- what the taking holds: the table, the two variables that the closure captures, the list -/
structure TP (g bm bo : Nat) (lo : List Bl) (L : List (List Int)) (W : World) : Prop where
  map : W.heap[g]? = some (.map (ents lo 0).toArray lo.length)
  box : Blk W bm 124 #[.map (some g)]
  out : ∃ q c, Blk W bo 56 #[.slice (some ⟨q, 0, none⟩) L.length c] ∧ q ≠ bo ∧ W.ownsRow (bm + 1) 60 2 (.slice (some ⟨q, 0, none⟩) L.length c) L.length (pvs L)
theorem TP.lt {g bm bo : Nat} {lo : List Bl} {L : List (List Int)} {W : World} (h : TP g bm bo lo L W) : g < W.heap.size ∧ bm < W.heap.size ∧ bo < W.heap.size := by
  obtain ⟨q, c, h1, _⟩ := h.out
  exact ⟨heap_lt h.map, h.box.lt, h1.lt⟩
theorem TP.below {g bm bo : Nat} {lo : List Bl} {L : List (List Int)} {W W' : World} (h : TP g bm bo lo L W) (hb : Below W.heap.size W W') : TP g bm bo lo L W' := by
  obtain ⟨q, c, h1, h2, h3⟩ := h.out
  exact ⟨heap_below hb h.map, h.box.below hb h.box.lt, q, c, h1.below hb h1.lt, h2, own_below h3 hb (Nat.le_refl _)⟩
/-- a world in which below block B just block g may have changed -/
structure Fr (B g : Nat) (w w' : World) : Prop where
  os : w'.os = w.os
  tape : w'.tape = w.tape
  output : w'.output = w.output
  size : w.heap.size ≤ w'.heap.size
  block : ∀ k, k < B → k ≠ g → w'.heap[k]? = w.heap[k]?
theorem Fr.of {B g : Nat} {w w' : World} (h : Below B w w') : Fr B g w w' := ⟨h.os, h.tape, h.output, h.size, fun k hk _ => h.block k hk⟩
theorem below_less {B B' : Nat} {w w' : World} (h : Below B w w') (hB : B' ≤ B) : Below B' w w' := ⟨h.os, h.tape, h.output, h.size, fun k hk => h.block k (Nat.lt_of_lt_of_le hk hB)⟩
theorem Fr.trans {B g : Nat} {w w' w'' : World} (h : Fr B g w w') (h2 : Fr B g w' w'') : Fr B g w w'' :=
  ⟨h2.os.trans h.os, h2.tape.trans h.tape, h2.output.trans h.output, Nat.le_trans h.size h2.size, fun k hk hg => (h2.block k hk hg).trans (h.block k hk hg)⟩
theorem Fr.set {B g : Nat} {w w' : World} (h : Below B w w') (o : Obj) : Fr B g w (ChangeMaps.setBlock w' g o) :=
  ⟨h.os, h.tape, h.output, by simpa [ChangeMaps.setBlock] using h.size, fun k hk hg => (setBlock_far w' g k o hg).trans (h.block k hk)⟩
theorem row_slice {W : World} {base : Nat} {e : TypeId} {size n : Nat} {v : Value} {xs : List Value} (h : W.ownsRow base e size v n xs) (hn : v = .slice none 0 0 → False) : ∃ q c, v = .slice (some ⟨q, 0, none⟩) n c := by
  rcases h.2 with ⟨h1, _⟩ | ⟨q, c, _, h1, _⟩
  · exact (hn h1).elim
  · exact ⟨q, c, h1⟩
end Go.Proofs.Ytmagaapdijapiaa
namespace Go.Proofs.Ytmagaapdijapiaa
open Go.ChangeShapes Go.WideShapes Go.ChangeAt Go.RowKit
/-- the plain side of the taking -/
structure PT (lo : List Bl) (cn : Bool) (x y : Int) (L : List (List Int)) (i : Nat) (done : Int → Int → Prop) (lo' : List Bl) : Prop where
  part : Part (hasB lo) cn x y L i done
  tab : Tab lo'
  few : lo'.length ≤ lo.length + L.length
  rest : ∀ U V, hasB lo' U V = (hasB lo U V && !decide ([U, V] ∈ L))
theorem pt_none {lo : List Bl} (ht : Tab lo) {cn : Bool} {x y : Int} (h : hasB lo x y = false) : PT lo cn x y [] 0 (fun _ _ => False) lo :=
  ⟨Part.none h, ht, Nat.le_refl _, fun U V => by simp⟩
theorem pair_eq {U V x y : Int} : [U, V] = [x, y] ↔ U = x ∧ V = y := ⟨fun h => by injection h with h1 h2; injection h2 with h2; exact ⟨h1, h2⟩, fun ⟨h1, h2⟩ => by rw [h1, h2]⟩
theorem rest_add {lo lo' : List Bl} {L : List (List Int)} (ht : Tab lo') (hr : ∀ U V, hasB lo' U V = (hasB lo U V && !decide ([U, V] ∈ L))) (x y : Int) (U V : Int) : hasB (strike lo' x y) U V = (hasB lo U V && !decide ([U, V] ∈ L ++ [[x, y]])) := by
  rw [has_strike ht, hr, Bool.and_assoc, ← Bool.not_or]
  congr 2
  rw [Bool.eq_iff_iff, Bool.or_eq_true, decide_eq_true_iff, decide_eq_true_iff, Bool.and_eq_true, decide_eq_true_iff, decide_eq_true_iff, List.mem_append, List.mem_singleton, pair_eq]
theorem pt_one {lo : List Bl} (ht : Tab lo) {cn : Bool} {x y : Int} (h : hasB lo x y = true) : PT lo cn x y [[x, y]] 0 (fun _ _ => False) (strike lo x y) :=
  ⟨Part.one h, strike_tab ht x y, strike_length lo x y, fun U V => rest_add (L := []) ht (fun U V => by simp) x y U V⟩
section
variable {lo lo' : List Bl} {cn : Bool} {x y : Int} {L : List (List Int)} {i : Nat} {done : Int → Int → Prop}
theorem PT.same (h : PT lo cn x y L i done lo') (hi : i < L.length) {du dv : Int} (hn : hasB lo' ((L[i]).getD 0 0 + du) ((L[i]).getD 1 0 + dv) = false) : PT lo cn x y L i (fun a b => done a b ∨ (a = du ∧ b = dv)) lo' :=
  ⟨h.part.same fun _ _ hh => by
    rw [h.rest, hh, Bool.true_and, Bool.not_eq_false', decide_eq_true_iff] at hn
    exact hn, h.tab, h.few, h.rest⟩
theorem PT.add (h : PT lo cn x y L i done lo') (hi : i < L.length) {du dv : Int} (ha : adjB cn du dv = true) (hn : hasB lo' ((L[i]).getD 0 0 + du) ((L[i]).getD 1 0 + dv) = true) : PT lo cn x y (L ++ [[(L[i]).getD 0 0 + du, (L[i]).getD 1 0 + dv]]) i (fun a b => done a b ∨ (a = du ∧ b = dv)) (strike lo' ((L[i]).getD 0 0 + du) ((L[i]).getD 1 0 + dv)) := by
  have h2 := hn
  rw [h.rest, Bool.and_eq_true, Bool.not_eq_true', decide_eq_false_iff_not] at h2
  refine ⟨h.part.add hi ha h2.1 h2.2, strike_tab h.tab _ _, ?_, rest_add h.tab h.rest _ _⟩
  have := strike_length lo' ((L[i]).getD 0 0 + du) ((L[i]).getD 1 0 + dv)
  have := h.few
  rw [List.length_append, List.length_singleton]
  omega
theorem PT.next (h : PT lo cn x y L i done lo') (hd : ∀ a b, adjB cn a b = true → done a b) : PT lo cn x y L (i + 1) (fun _ _ => False) lo' := ⟨h.part.next hd, h.tab, h.few, h.rest⟩
theorem PT.weak {done' : Int → Int → Prop} (h : PT lo cn x y L i done lo') (hd : ∀ a b, done' a b → adjB cn a b = true → done a b) : PT lo cn x y L i done' lo' := ⟨h.part.weak hd, h.tab, h.few, h.rest⟩
end
/-- the steps before number j -/
def upto (j : Nat) (a b : Int) : Prop := ∃ k, k < j ∧ stepX k = a ∧ stepY k = b
theorem upto_succ (j : Nat) (a b : Int) : upto (j + 1) a b → upto j a b ∨ (a = stepX j ∧ b = stepY j) := by
  rintro ⟨k, hk, h1, h2⟩
  by_cases e : k = j
  · subst e
    exact .inr ⟨h1.symm, h2.symm⟩
  · exact .inl ⟨k, by omega, h1, h2⟩
theorem upto_all {cn : Bool} (a b : Int) (h : adjB cn a b = true) : upto (stepN cn) a b := by
  obtain ⟨j, hj, h1, h2⟩ := adj_step h
  exact ⟨j, hj, h1, h2⟩
theorem Laid8.fr {g : Nat} {w w' : World} {B : Nat} (h : Laid8 w) (hf : Fr B g w w') (hg : 0 < g) (hB : 0 < B) : Laid8 w' := fun j v hv =>
  (World.cell?_of_block (a := ⟨0, 0 + j, none⟩) (hf.block 0 hB (by omega))).trans (h j v hv)
theorem tp_start {g : Nat} {lo : List Bl} {w : World} (x y : Int) (hg : w.heap[g]? = some (.map (ents lo 0).toArray lo.length)) : ∀ w1, w1 = (((w.alloc (.cells #[.map (some g)] 124)).alloc (.cells (ivs .i32 [x, y]) 60)).alloc (.cells #[] 60)).alloc (.cells #[.slice (some ⟨w.heap.size + 1 + 1, 0, none⟩) 0 0] 56) →
    TP g w.heap.size (w.heap.size + 1 + 1 + 1) lo [] w1 ∧ Below w.heap.size w w1 ∧ Blk w1 (w.heap.size + 1) 60 (ivs .i32 [x, y]) := fun w1 e => by
  have hb : Below w.heap.size w w1 := by
    rw [e]
    exact ((((Below.refl _ _).alloc (Nat.le_refl _) _).alloc (by simp) _).alloc (by simp; omega) _).alloc (by simp; omega) _
  have h3 : Blk w1 (w.heap.size + 1 + 1) 60 #[] := by
    rw [e]
    exact (Blk.newAt (by simp) rfl).alloc _
  refine ⟨⟨heap_below hb hg, ?_, w.heap.size + 1 + 1, 0, ?_, by omega, rfl, .inr ⟨_, _, #[], rfl, by omega, h3, Nat.le_refl _, Nat.zero_le _, rfl, rfl⟩⟩, hb, ?_⟩
  · rw [e]
    exact (((Blk.newAt rfl rfl).alloc _).alloc _).alloc _
  · rw [e]
    exact Blk.newAt (by simp) rfl
  · rw [e]
    exact ((Blk.newAt (by simp) rfl).alloc _).alloc _
end Go.Proofs.Ytmagaapdijapiaa
namespace Go.Proofs.Ytmagaapdijapiaa
open Go.ChangeShapes Go.WideShapes Go.ChangeAt Go.RowKit
noncomputable def reachB (H : Int → Int → Bool) (cn : Bool) (x y U V : Int) : Bool := by
  classical exact decide (Reach H cn x y U V)
theorem reachB_iff {H : Int → Int → Bool} {cn : Bool} {x y U V : Int} : reachB H cn x y U V = true ↔ Reach H cn x y U V := by
  classical
  unfold reachB
  simp
theorem reachB_mem {H : Int → Int → Bool} {cn : Bool} {x y : Int} {L : List (List Int)} (h : PieceL H cn x y L) (U V : Int) : decide ([U, V] ∈ L) = reachB H cn x y U V := by
  rw [Bool.eq_iff_iff, reachB_iff, decide_eq_true_iff]
  exact h.iff U V
/-- what is told of a piece -/
noncomputable def pcL (l : List Bl) (x y : Int) (cn : Bool) : List Bl := if vpB l then (if cellB x y then (if hasB l x y then picHas (reachB (hasB l) cn x y) else []) else []) else []
def pcK (l : List Bl) (x y : Int) : Int := if vpB l then (if cellB x y then (if hasB l x y then 0 else 6) else 2) else 1
theorem pcL_bls (l : List Bl) (x y : Int) (cn : Bool) : Bls (pcL l x y cn) := by
  rw [pcL]
  split
  · split
    · split
      · exact picHas_bls _
      · exact fun b hb => by cases hb
    · exact fun b hb => by cases hb
  · exact fun b hb => by cases hb
theorem reach_few {l : List Bl} (hv : VPic l) (x y : Int) (cn : Bool) : (picHas (reachB (hasB l) cn x y)).length ≤ 64 := by
  rw [picHas]
  split
  · rename_i h2
    have hc := h2.choose_spec
    refine Nat.le_trans (pic_sub_length hc.1 hv.pic fun U V hx => ?_) hv.few
    rw [hc.2, reachB_iff] at hx
    exact hx.has
  · exact Nat.zero_le _
theorem pcL_length {l : List Bl} (hrow : Bls l) (h16 : ∀ b ∈ l, is16 b.2) (x y : Int) (cn : Bool) : (pcL l x y cn).length ≤ 64 := by
  rw [pcL]
  split
  · rename_i h
    split
    · split
      · exact reach_few (vpic_of hrow h16 h) x y cn
      · exact Nat.zero_le _
    · exact Nat.zero_le _
  · exact Nat.zero_le _
/-! ### the rest taken away -/
def subT (a b : List Bl) (ks : List (List Int)) (key : List Int) : List Int := if key ∈ ks then mixF notF a b key else maskAt a key
theorem subT_nil (a b : List Bl) (key : List Int) : maskAt a key = subT a b [] key := by rw [subT, if_neg (by simp)]
theorem subT_succ {a b lo : List Bl} {ks : List (List Int)} {k M : List Int} (h : ∀ key, maskAt lo key = subT a b ks key) (hM : M = mixF notF a b k) (key : List Int) : maskAt (putB lo k M) key = subT a b (ks ++ [k]) key := by
  rw [putB_mask, subT, h, subT]
  by_cases e : key = k
  · rw [if_pos e, if_pos (by simp [e]), hM, e]
  · rw [if_neg e]
    by_cases e2 : key ∈ ks
    · rw [if_pos e2, if_pos (List.mem_append_left _ e2)]
    · rw [if_neg e2, if_neg (fun h => by
        rcases List.mem_append.1 h with h | h
        · exact e2 h
        · exact e (List.mem_singleton.1 h))]
theorem opNot_bit {a b : List Int} (ha : a.length = 16) (hb : b.length = 16) (h1 : is16 a) (h2 : is16 b) {x y : Nat} (hx : x < 16) (hy : y < 16) : bitB (opM notF a b) x y = (bitB a x y && !bitB b x y) := by
  have e : (opM notF a b).getD y 0 = notF (a.getD y 0) (b.getD y 0) := by
    rw [opM, List.getD_eq_getElem?_getD, List.getElem?_eq_getElem (by rw [List.length_zipWith]; omega), List.getElem_zipWith]
    rw [List.getD_eq_getElem?_getD, List.getElem?_eq_getElem (by omega), List.getD_eq_getElem?_getD, List.getElem?_eq_getElem (by omega)]
    rfl
  rw [bitB_row, e, notF_bit (h1.getD y) (h2.getD y) hx, bitB_row, bitB_row]
theorem sub_has {a b lo : List Bl} {ks : List (List Int)} (ha : Tab a) (hb : Tab b) (h : ∀ key, maskAt lo key = subT a b ks key) (hk : ∀ c ∈ b, c.1 ∈ ks) (U V : Int) : hasB lo U V = (hasB a U V && !hasB b U V) := by
  rw [hasB, h, subT]
  obtain ⟨a1, a2⟩ := ha.mask [U / 16, V / 16]
  obtain ⟨b1, b2⟩ := hb.mask [U / 16, V / 16]
  by_cases e : [U / 16, V / 16] ∈ ks
  · rw [if_pos e, mixF, opNot_bit a1 b1 a2 b2 (by omega) (by omega)]
    rfl
  · have e2 : maskAt b [U / 16, V / 16] = zr16 := maskAt_no fun c hc h => e (by rw [h]; exact hk c hc)
    have e3 : hasB b U V = false := by rw [hasB, e2, zr16_bit]
    rw [if_neg e, e3, Bool.not_false, Bool.and_true]
    rfl
structure Two (w wr : World) (gb go r : Nat) (a b : List Bl) (seen : List Nat) (ks : List (List Int)) : Prop where
  two : wr.heap[gb]? = some (.map (ents b 0).toArray b.length)
  out : ∃ lo, Tab lo ∧ lo.length ≤ a.length + ks.length ∧ wr.heap[go]? = some (.map (ents lo 0).toArray lo.length) ∧ ∀ key, maskAt lo key = subT a b ks key
  iter : ItAt wr r gb b.length seen
  below : Below w.heap.size w wr
theorem Two.step {w wr w2 w7 : World} {gb go r : Nat} {a b : List Bl} {seen : List Nat} {ks : List (List Int)} {lo : List Bl} {i : Nat} (h : Two w wr gb go r a b seen ks) (h2r : gb ≠ r) (hor : go ≠ r) (h2o : gb ≠ go) (hwr : w.heap.size ≤ r) (hwo : w.heap.size ≤ go)
    (ht : Tab lo) (hlen : lo.length ≤ a.length + ks.length) (hout : wr.heap[go]? = some (.map (ents lo 0).toArray lo.length)) (hm : ∀ key, maskAt lo key = subT a b ks key)
    (hg : wr.grownBy w2 (some r)) (hit : ItAt w2 r gb b.length (seen ++ [i])) (hb : Below w2.heap.size w2 w7) {k M : List Int} (hk : k.length = 2) (hM : M.length = 16) (h16 : is16 M) (hMe : M = mixF notF a b k) :
    Two w (ChangeMaps.setBlock w7 go (.map (ents (putB lo k M) 0).toArray (putB lo k M).length)) gb go r a b (seen ++ [i]) (ks ++ [k]) := by
  have far : ∀ {g : Nat} {o : Obj}, wr.heap[g]? = some o → g ≠ r → g ≠ go → (ChangeMaps.setBlock w7 go (.map (ents (putB lo k M) 0).toArray (putB lo k M).length)).heap[g]? = some o := fun {g o} ho h1 h2 => by
    rw [setBlock_far _ _ _ _ h2]
    exact heap_below hb (heap_grown hg ho (fun e => h1 (by injection e)))
  have hgo : go < w7.heap.size := by
    have h1 := heap_lt hout
    have h2 := hg.size
    have h3 := hb.size
    omega
  refine ⟨far h.two h2r h2o, ⟨putB lo k M, ht.put hk hM h16, ?_, setBlock_at _ _ _ hgo, subT_succ hm hMe⟩, ?_, ?_⟩
  · have := putB_length k M lo
    rw [List.length_append, List.length_singleton]
    omega
  · refine hit.keep ?_
    rw [setBlock_far _ _ _ _ hor.symm]
    exact hb.block r hit.lt
  · have hb2 : Below w.heap.size w w2 := h.below.grown hg h.below.size (fun j e => by cases e; exact hwr)
    exact below_setBlock (hb2.trans (hb.mono hb2.size)) hwo _
theorem Two.start {w W : World} {gb go : Nat} {a b : List Bl} (ha : Tab a) (h2 : W.heap[gb]? = some (.map (ents b 0).toArray b.length)) (ho : W.heap[go]? = some (.map (ents a 0).toArray a.length)) (hb : Below w.heap.size w W) :
    Two w (W.alloc (.mapIter (some gb) b.length #[] b.length)) gb go W.heap.size a b [] [] := by
  have k : ∀ {g : Nat} {o : Obj}, W.heap[g]? = some o → (W.alloc (.mapIter (some gb) b.length #[] b.length)).heap[g]? = some o := fun {g o} h => (Below.heap_alloc W _ g (heap_lt h)).trans h
  exact ⟨k h2, ⟨a, ha, Nat.le_refl _, k ho, subT_nil a b⟩, ItAt.start (heap_alloc_new W _), hb.alloc hb.size _⟩
/-- below a block that is older than what has changed nothing has -/
theorem Fr.below {B g B' : Nat} {w w' : World} (h : Fr B g w w') (hB : B' ≤ B) (hg : B' ≤ g) : Below B' w w' := ⟨h.os, h.tape, h.output, h.size, fun k hk => h.block k (by omega) (by omega)⟩
/-- at the end the piece is left -/
theorem piece_left {l lo' lo : List Bl} {ks : List (List Int)} {cn : Bool} {x y : Int} {L : List (List Int)} (hv : VPic l) (ht : Tab lo') (hp : PieceL (hasB l) cn x y L) (hr : ∀ U V, hasB lo' U V = (hasB l U V && !decide ([U, V] ∈ L))) (hlo : Tab lo) (hm : ∀ key, maskAt lo key = subT l lo' ks key) (hk : ∀ c ∈ lo', c.1 ∈ ks) :
    picR (picOf (maskAt lo)) = picHas (reachB (hasB l) cn x y) ∧ picK (picOf (maskAt lo)) = 0 := by
  have hh : ∀ U V, hasB lo U V = reachB (hasB l) cn x y U V := fun U V => by
    rw [sub_has (Tab.of_pic hv.pic) ht hm hk, hr, reachB_mem hp]
    cases hx : hasB l U V
    · rw [Bool.false_and]
      rw [Bool.eq_iff_iff, reachB_iff]
      exact ⟨fun h => (by cases h), fun h => (by have := h.has; rw [hx] at this; cases this)⟩
    · cases reachB (hasB l) cn x y U V <;> rfl
  obtain ⟨m, hm1, hm2⟩ := sorted_exists (solid lo)
  obtain ⟨hm3, hm4⟩ := pic_sorted hlo hm1 hm2
  have hmh : ∀ U V, hasB m U V = reachB (hasB l) cn x y U V := fun U V => by
    rw [← hh, hasB, hasB, hm4]
  have hpo : picOf (maskAt lo) = picHas (reachB (hasB l) cn x y) := by
    rw [picHas_eq hm3 hmh]
    exact picOf_has hm3 hmh hlo.bls hlo.m16 hh
  have hfew := reach_few hv x y cn
  rw [hpo, picR, picK, if_pos hfew, if_pos hfew]
  exact ⟨rfl, rfl⟩
theorem PieceL.len {H : Int → Int → Bool} {cn : Bool} {x y : Int} {L C : List (List Int)} (h : PieceL H cn x y L) (hC : ∀ u v, H u v = true → [u, v] ∈ C) : L.length ≤ C.length :=
  List.Nodup.length_le_of_subset h.nodup fun c hc => by
    have h2 := h.two c hc
    have hc2 : [c.getD 0 0, c.getD 1 0] ∈ L := by rw [← two_of h2]; exact hc
    rw [two_of h2]
    exact hC _ _ ((h.iff _ _).1 hc2).has
theorem keysL_fresh {l : List Bl} (ha : Apart l) {seen : List Nat} (hs : ∀ i ∈ seen, i < l.length) {i : Nat} (hi : i < l.length) (hn : i ∉ seen) : (l[i]).1 ∉ keysL l seen := fun h => by
  obtain ⟨b, hb, he⟩ := List.mem_map.1 h
  obtain ⟨j, hj, rfl⟩ := List.mem_map.1 hb
  have hjl := hs j hj
  have e : l.getD j ([], []) = l[j] := by rw [List.getD_eq_getElem?_getD, List.getElem?_eq_getElem hjl]; rfl
  rw [e] at he
  have hne : j ≠ i := fun e => hn (e ▸ hj)
  rcases Nat.lt_or_gt_of_ne hne with h | h
  · exact List.pairwise_iff_getElem.1 ha j i hjl hi h he
  · exact List.pairwise_iff_getElem.1 ha i j hi hjl h he.symm
end Go.Proofs.Ytmagaapdijapiaa
namespace Go.Proofs.Ytmagaapdijapiaa
open Go.ChangeShapes Go.WideShapes Go.ChangeAt Go.RowKit
/-- what is told of all pieces -/
noncomputable def psL (l : List Bl) (cn : Bool) : List Int := if vpB l then sizesTo (hasB l) cn (specC l) (specC l).length else []
def psK (l : List Bl) : Int := if vpB l then 0 else 1
theorem psL_length {l : List Bl} (hrow : Bls l) (h16 : ∀ b ∈ l, is16 b.2) (cn : Bool) : (psL l cn).length ≤ 16384 := by
  rw [psL]
  split
  · rename_i h
    have h1 := sizes_length (hasB l) cn (specC l) (specC l).length
    have h2 := (vpic_of hrow h16 h).count
    omega
  · exact Nat.zero_le _
def GivesToldI (L : List Int) (k : Int) (w : World) (e : Ending) (w' : World) : Prop :=
  ∃ A c, e = .returned (.tuple #[.slice A L.length c, .int .i64 k]) ∧ Own w' w.heap.size w'.heap.size 2 1 A L.length c (L.map (.int .i64)) ∧ Below w.heap.size w w'
theorem GivesToldI.nil {w w' : World} {k : Int} (hb : Below w.heap.size w w') : GivesToldI [] k w (.returned (.tuple #[.slice none 0 0, .int .i64 k])) w' := ⟨none, 0, rfl, ⟨rfl, .inl ⟨rfl, rfl, rfl⟩⟩, hb⟩
theorem GivesToldI.lit {w w1 : World} {k : Int} (hb : Below w.heap.size w w1) : GivesToldI [] k w (.returned (.tuple #[.slice (some ⟨w1.heap.size, 0, none⟩) 0 0, .int .i64 k])) (w1.alloc (.cells #[] 2)) := by
  have h0 := World.ownsRow_lit (e := 2) (base := w.heap.size) (size := 1) w1 #[] 0 hb.size (by unfold maxLen; omega) rfl
  obtain ⟨A, c, he, ho⟩ := Own.of_row h0
  cases he
  exact ⟨_, _, rfl, ho, hb.alloc hb.size _⟩
/-- a picture within a picture whose cells are cells -/
theorem VPic.sub {P l : List Bl} (hP : Pic P) (hl : VPic l) (h : ∀ U V, hasB P U V = true → hasB l U V = true) : VPic P := by
  have hc : ∀ b ∈ P, ∀ x y : Nat, x < 16 → y < 16 → bitB b.2 x y = true → cellB (16 * b.1.getD 0 0 + x) (16 * b.1.getD 1 0 + y) = true := fun b hb x y hx hy hbit => by
    refine hl.cells (h _ _ ?_)
    rw [has_of_mem hP.apart hb (hP.bls b hb).1 hx hy, hbit]
  refine ⟨hP, fun b hb => ?_, fun b hb => ?_, Nat.le_trans (pic_sub_length hP hl.pic h) hl.few⟩
  · obtain ⟨x, y, hx, hy, hbit⟩ := some_bit (hP.bls b hb).2 (hP.m16 b hb) (hP.noVoid b hb)
    have := cellB_in (hc b hb x y hx hy hbit)
    refine ⟨?_, ?_⟩ <;> omega
  · rw [okCells, List.all_eq_true]
    intro f hf
    have h1 : f ∈ P.flatMap bCells := List.mem_flatMap.2 ⟨b, hb, hf⟩
    rw [← (specC_perm _ P (Nat.le_refl _)).mem_iff, spec_mem hP.apart hP.bls] at h1
    exact hl.cells (h _ _ h1.2)
theorem opOr_bit {a b : List Int} (ha : a.length = 16) (hb : b.length = 16) (h1 : is16 a) (h2 : is16 b) {x y : Nat} (_hx : x < 16) (hy : y < 16) : bitB (opM orF a b) x y = (bitB a x y || bitB b x y) := by
  have e : (opM orF a b).getD y 0 = orF (a.getD y 0) (b.getD y 0) := by
    rw [opM, List.getD_eq_getElem?_getD, List.getElem?_eq_getElem (by rw [List.length_zipWith]; omega), List.getElem_zipWith]
    rw [List.getD_eq_getElem?_getD, List.getElem?_eq_getElem (by omega), List.getD_eq_getElem?_getD, List.getElem?_eq_getElem (by omega)]
    rfl
  rw [bitB_row, e, orF_bit (h1.getD y) (h2.getD y) x, bitB_row, bitB_row]
theorem join_has {a b L : List Bl} (ha : Pic a) (hb : Pic b) (h : JoinTo a b b.length L) (U V : Int) : hasB L U V = (hasB a U V || hasB b U V) := by
  obtain ⟨a1, a2⟩ := maskAt_ok ha.bls ha.m16 [U / 16, V / 16]
  obtain ⟨b1, b2⟩ := maskAt_ok hb.bls hb.m16 [U / 16, V / 16]
  rw [hasB, h.2.2, List.take_length, opOr_bit a1 b1 a2 b2 (by omega) (by omega)]
  rfl
/-- what the reference has seen -/
structure SeenS (l : List Bl) (cn : Bool) (k : Nat) (S : List Bl) : Prop where
  pic : Pic S
  iff : ∀ U V, hasB S U V = true ↔ Old (hasB l) cn ((specC l).take k) U V
theorem seen_zero (l : List Bl) (cn : Bool) : SeenS l cn 0 [] := ⟨Pic.nil, fun U V => by
  rw [has_nil]
  exact ⟨fun h => (by cases h), fun h => absurd h (old_zero _ _ _ _ _)⟩⟩
section
variable {l : List Bl} {cn : Bool} {k : Nat} {S : List Bl}
theorem SeenS.few (h : SeenS l cn k S) (hl : Pic l) : S.length ≤ l.length := pic_sub_length h.pic hl fun U V hx => by
  obtain ⟨c, _, hr⟩ := (h.iff U V).1 hx
  exact hr.has
theorem SeenS.same (h : SeenS l cn k S) (hk : k < (specC l).length) {x y : Int} (he : (specC l)[k] = [x, y]) (hh : hasB S x y = true) : SeenS l cn (k + 1) S ∧ sizesTo (hasB l) cn (specC l) (k + 1) = sizesTo (hasB l) cn (specC l) k := by
  have ho := (h.iff x y).1 hh
  have ho' : Old (hasB l) cn ((specC l).take k) (((specC l)[k]).getD 0 0) (((specC l)[k]).getD 1 0) := by rw [he]; exact ho
  exact ⟨⟨h.pic, fun U V => (h.iff U V).trans (old_same hk ho' U V).symm⟩, sizes_old hk ho'⟩
theorem SeenS.new (h : SeenS l cn k S) (hk : k < (specC l).length) {x y : Int} (he : (specC l)[k] = [x, y]) (hh : hasB S x y = false) {L : List (List Int)} (hL : PieceL (hasB l) cn x y L) {P S' : List Bl} (hP : Pic P) (hm : ∀ U V, hasB P U V = decide ([U, V] ∈ L)) (hj : JoinTo S P P.length S') : SeenS l cn (k + 1) S' ∧ sizesTo (hasB l) cn (specC l) (k + 1) = sizesTo (hasB l) cn (specC l) k ++ [(L.length : Int)] := by
  have hn : ¬ Old (hasB l) cn ((specC l).take k) x y := fun ho => by
    rw [(h.iff x y).2 ho] at hh
    cases hh
  have e0 : ((specC l)[k]).getD 0 0 = x := by rw [he]; rfl
  have e1 : ((specC l)[k]).getD 1 0 = y := by rw [he]; rfl
  refine ⟨⟨hj.1, fun U V => ?_⟩, sizes_new hk (by rw [e0, e1]; exact hn) (by rw [e0, e1]; exact hL)⟩
  rw [join_has h.pic hP hj, Bool.or_eq_true, h.iff, hm, decide_eq_true_iff, hL.iff, old_succ hk, e0, e1]
/-- the cells of the picture of a piece are as many -/
theorem piece_count {H : Int → Int → Bool} {x y : Int} {L : List (List Int)} (hL : PieceL H cn x y L) {P : List Bl} (hP : Pic P) (hm : ∀ U V, hasB P U V = decide ([U, V] ∈ L)) : (specC P).length = L.length := by
  refine List.Perm.length_eq ((List.perm_ext_iff_of_nodup (spec_nodup hP.rising) hL.nodup).2 fun c => ?_)
  rw [spec_mem hP.apart hP.bls, hm, decide_eq_true_iff]
  constructor
  · rintro ⟨h1, h2⟩
    rw [two_of h1]
    exact h2
  · intro h1
    refine ⟨hL.two c h1, ?_⟩
    rw [← two_of (hL.two c h1)]
    exact h1
end
end Go.Proofs.Ytmagaapdijapiaa
namespace Go.Proofs.Ytmagaapdijapiaa
open Go.ChangeShapes Go.WideShapes Go.ChangeAt Go.RowKit
noncomputable def oldB (H : Int → Int → Bool) (cn : Bool) (C : List (List Int)) (c : List Int) : Bool := by
  classical exact decide (Old H cn C (c.getD 0 0) (c.getD 1 0))
theorem oldB_iff {H : Int → Int → Bool} {cn : Bool} {C : List (List Int)} {c : List Int} : oldB H cn C c = true ↔ Old H cn C (c.getD 0 0) (c.getD 1 0) := by
  classical
  unfold oldB
  simp
theorem filter_or {p q r : List Int → Bool} (C : List (List Int)) (h : ∀ c ∈ C, r c = (p c || q c)) (hd : ∀ c ∈ C, ¬ (p c = true ∧ q c = true)) : (C.filter r).length = (C.filter p).length + (C.filter q).length := by
  induction C with
  | nil => rfl
  | cons c C ih =>
    have i := ih (fun d hd => h d (List.mem_cons_of_mem _ hd)) (fun d hd2 => hd d (List.mem_cons_of_mem _ hd2))
    have h1 := h c (List.mem_cons_self ..)
    have h2 := hd c (List.mem_cons_self ..)
    rw [List.filter_cons, List.filter_cons, List.filter_cons, h1]
    cases hp : p c <;> cases hq : q c
    · simpa using i
    · simp only [Bool.false_or, if_true, List.length_cons, Bool.false_eq_true, if_false]; omega
    · simp only [Bool.or_false, if_true, List.length_cons, Bool.false_eq_true, if_false]; omega
    · exact absurd ⟨hp, hq⟩ h2
/-- a list of all cells, each once -/
structure AllC (H : Int → Int → Bool) (C : List (List Int)) : Prop where
  two : ∀ c ∈ C, c.length = 2
  nodup : C.Nodup
  iff : ∀ u v, [u, v] ∈ C ↔ H u v = true
theorem AllC.of_pic {P : List Bl} (h : Pic P) : AllC (hasB P) (specC P) :=
  ⟨fun c hc => ((spec_mem h.apart h.bls c).1 hc).1, spec_nodup h.rising, fun u v => by
    rw [spec_mem h.apart h.bls]
    exact ⟨fun h => h.2, fun h => ⟨rfl, h⟩⟩⟩
section
variable {H : Int → Int → Bool} {cn : Bool} {C : List (List Int)}
theorem AllC.has (h : AllC H C) {c : List Int} (hc : c ∈ C) : H (c.getD 0 0) (c.getD 1 0) = true := (h.iff _ _).1 (by rw [← two_of (h.two c hc)]; exact hc)
theorem AllC.piece (h : AllC H C) (x y : Int) : PieceL H cn x y (C.filter fun c => reachB H cn x y (c.getD 0 0) (c.getD 1 0)) :=
  ⟨fun c hc => h.two c (List.mem_filter.1 hc).1, h.nodup.filter _, fun u v => by
    rw [List.mem_filter, h.iff]
    show H u v = true ∧ reachB H cn x y u v = true ↔ _
    rw [reachB_iff]
    exact ⟨fun h => h.2, fun h => ⟨h.has, h⟩⟩⟩
theorem AllC.sum (h : AllC H C) : ∀ k, k ≤ C.length → (sizesTo H cn C k).sum = (((C.filter fun c => oldB H cn (C.take k) c).length : Nat) : Int)
  | 0, _ => by
    have : (C.filter fun c => oldB H cn (C.take 0) c) = [] := List.filter_eq_nil_iff.2 fun c _ => by
      rw [oldB_iff]
      exact old_zero _ _ _ _ _
    rw [this]
    rfl
  | k + 1, hk => by
    have hkl : k < C.length := hk
    have ih := h.sum k (by omega)
    classical
    by_cases ho : Old H cn (C.take k) ((C[k]).getD 0 0) ((C[k]).getD 1 0)
    · rw [sizes_old hkl ho, ih]
      congr 3
      funext c
      rw [Bool.eq_iff_iff, oldB_iff, oldB_iff, old_same hkl ho]
    · have hp := h.piece (cn := cn) ((C[k]).getD 0 0) ((C[k]).getD 1 0)
      rw [sizes_new hkl ho hp, List.sum_append, ih]
      have e := filter_or (r := fun c => oldB H cn (C.take (k + 1)) c) (p := fun c => oldB H cn (C.take k) c) (q := fun c => reachB H cn ((C[k]).getD 0 0) ((C[k]).getD 1 0) (c.getD 0 0) (c.getD 1 0)) C (fun c _ => by
        rw [Bool.eq_iff_iff, Bool.or_eq_true, oldB_iff, oldB_iff, reachB_iff, old_succ hkl]) (fun c _ hb => by
        rw [oldB_iff, reachB_iff] at hb
        obtain ⟨d, hd, hr⟩ := hb.1
        exact ho ⟨d, hd, hr.trans hb.2.symm⟩)
      rw [e]
      simp
theorem AllC.sum_all (h : AllC H C) : (sizesTo H cn C C.length).sum = (C.length : Int) := by
  rw [h.sum C.length (Nat.le_refl _)]
  have : (C.filter fun c => oldB H cn (C.take C.length) c) = C := List.filter_eq_self.2 fun c hc => by
    rw [oldB_iff, List.take_length]
    exact ⟨c, hc, .start (h.has hc)⟩
  rw [this]
theorem reach_wide {x y u v : Int} (h : Reach H false x y u v) : Reach H true x y u v := by
  induction h with
  | start h => exact .start h
  | step du dv _ ha hh ih => exact .step du dv ih (adj_wide ha) hh
theorem sizes_wide (H : Int → Int → Bool) (C : List (List Int)) : ∀ k, k ≤ C.length → (sizesTo H true C k).length ≤ (sizesTo H false C k).length
  | 0, _ => Nat.le_refl _
  | k + 1, hk => by
    have hkl : k < C.length := hk
    have ih := sizes_wide H C k (by omega)
    classical
    rw [sizesTo, sizesTo]
    by_cases h1 : Old H false (C.take k) ((C.getD k []).getD 0 0) ((C.getD k []).getD 1 0)
    · have h2 : Old H true (C.take k) ((C.getD k []).getD 0 0) ((C.getD k []).getD 1 0) := by
        obtain ⟨c, hc, hr⟩ := h1
        exact ⟨c, hc, reach_wide hr⟩
      rw [if_pos h1, if_pos h2]
      exact ih
    · rw [if_neg h1]
      split
      · rw [List.length_append]; omega
      · rw [List.length_append, List.length_append]; simp only [List.length_singleton]; omega
/-- the cells of one piece reach each other within it -/
theorem reach_in {x y u v : Int} (h : Reach H cn x y u v) : Reach (reachB H cn x y) cn x y u v := by
  induction h with
  | start h => exact .start (reachB_iff.2 (.start h))
  | step du dv h1 ha hh ih => exact .step du dv ih ha (reachB_iff.2 (.step du dv h1 ha hh))
theorem own_piece {x y : Int} (hC : AllC (reachB H cn x y) C) (hxy : H x y = true) : sizesTo (reachB H cn x y) cn C C.length = [(C.length : Int)] := by
  have h0 : 0 < C.length := List.length_pos_of_mem ((hC.iff x y).2 (reachB_iff.2 (.start hxy)))
  have hl : ∀ k, 0 < k → k ≤ C.length → (sizesTo (reachB H cn x y) cn C k).length = 1 := fun k => by
    induction k with
    | zero => intro h _; omega
    | succ k ih =>
      intro _ hk
      have hkl : k < C.length := hk
      rcases Nat.eq_zero_or_pos k with rfl | hk0
      · have hp := hC.piece (cn := cn) ((C[0]).getD 0 0) ((C[0]).getD 1 0)
        rw [sizes_new hkl (old_zero _ _ _ _ _) hp]
        rfl
      · have hr : ∀ c ∈ C, Reach (reachB H cn x y) cn x y (c.getD 0 0) (c.getD 1 0) := fun c hc => reach_in (reachB_iff.1 (hC.has hc))
        have ho : Old (reachB H cn x y) cn (C.take k) ((C[k]).getD 0 0) ((C[k]).getD 1 0) :=
          ⟨C[0], List.mem_take_iff_getElem.2 ⟨0, by omega, rfl⟩, (hr _ (List.getElem_mem h0)).symm.trans (hr _ (List.getElem_mem hkl))⟩
        rw [sizes_old hkl ho]
        exact ih hk0 (by omega)
  have h1 := hl C.length h0 (Nat.le_refl _)
  have h2 := hC.sum_all (cn := cn)
  match hs : sizesTo (reachB H cn x y) cn C C.length, h1 with
  | [a], _ =>
    rw [hs] at h2
    simp at h2
    rw [h2]
/-- one piece taken away -/
theorem sizes_rest {H2 : Int → Int → Bool} {x y : Int} (hC : AllC H C) (h2 : ∀ u v, H2 u v = (H u v && !reachB H cn x y u v)) : ∀ k, k ≤ C.length →
    ∃ e : Nat, (sizesTo H cn C k).length = (sizesTo H2 cn (C.filter fun c => H2 (c.getD 0 0) (c.getD 1 0)) ((C.take k).filter fun c => H2 (c.getD 0 0) (c.getD 1 0)).length).length + e ∧ ((∃ c ∈ C.take k, Reach H cn x y (c.getD 0 0) (c.getD 1 0)) → e = 1) ∧ ((¬ ∃ c ∈ C.take k, Reach H cn x y (c.getD 0 0) (c.getD 1 0)) → e = 0)
  | 0, _ => ⟨0, rfl, fun ⟨c, hc, _⟩ => by simp at hc, fun _ => rfl⟩
  | k + 1, hk => by
    have hkl : k < C.length := hk
    obtain ⟨e, i1, i2, i3⟩ := sizes_rest hC h2 k (by omega)
    obtain ⟨F, hF⟩ : ∃ F, F = C.filter fun c => H2 (c.getD 0 0) (c.getD 1 0) := ⟨_, rfl⟩
    obtain ⟨p, hp⟩ : ∃ p : List Int → Bool, p = fun c => H2 (c.getD 0 0) (c.getD 1 0) := ⟨_, rfl⟩
    rw [← hp] at hF i1
    rw [← hF] at i1
    rw [← hp, ← hF]
    have hpre : F = (C.take k).filter p ++ (C.drop k).filter p := by rw [hF, ← List.filter_append, List.take_append_drop]
    have htk : F.take ((C.take k).filter p).length = (C.take k).filter p := by rw [hpre, List.take_left']; rfl
    have hdk : C.drop k = C[k] :: C.drop (k + 1) := List.drop_eq_getElem_cons hkl
    have hcm := List.getElem_mem hkl
    have hhc := hC.has hcm
    have hiff : ∀ u v, H2 u v = true ↔ (H u v = true ∧ ¬ Old H cn [[x, y]] u v) := fun u v => by
      rw [h2, Bool.and_eq_true, Bool.not_eq_true']
      refine and_congr_right fun _ => ?_
      rw [← Bool.not_eq_true, reachB_iff]
      refine not_congr ⟨fun h => ⟨[x, y], List.mem_singleton.2 rfl, h⟩, fun ⟨c, hc, h⟩ => ?_⟩
      rw [List.mem_singleton] at hc
      subst hc
      exact h
    classical
    rw [List.take_succ_eq_append_getElem hkl, List.filter_append]
    by_cases hin : Reach H cn x y ((C[k]).getD 0 0) ((C[k]).getD 1 0)
    · have hpf : p C[k] = false := by
        rw [hp]
        show H2 _ _ = false
        rw [h2, reachB_iff.2 hin, Bool.not_true, Bool.and_false]
      have hf1 : [C[k]].filter p = [] := by rw [List.filter_cons, hpf]; rfl
      rw [hf1, List.append_nil]
      by_cases hex : ∃ c ∈ C.take k, Reach H cn x y (c.getD 0 0) (c.getD 1 0)
      · have ho : Old H cn (C.take k) ((C[k]).getD 0 0) ((C[k]).getD 1 0) := by
          obtain ⟨c, hc, hr⟩ := hex
          exact ⟨c, hc, hr.symm.trans hin⟩
        refine ⟨e, by rw [sizes_old hkl ho]; exact i1, fun _ => i2 hex, fun hn => absurd ?_ hn⟩
        obtain ⟨c, hc, hr⟩ := hex
        exact ⟨c, List.mem_append_left _ hc, hr⟩
      · have ho : ¬ Old H cn (C.take k) ((C[k]).getD 0 0) ((C[k]).getD 1 0) := by
          rintro ⟨c, hc, hr⟩
          exact hex ⟨c, hc, hin.trans hr.symm⟩
        have he := i3 hex
        refine ⟨1, ?_, fun _ => rfl, fun hn => absurd ⟨C[k], List.mem_append_right _ (List.mem_singleton.2 rfl), hin⟩ hn⟩
        rw [sizes_new hkl ho (hC.piece _ _), List.length_append, i1, he]
        rfl
    · have hpt : p C[k] = true := by
        rw [hp]
        show H2 _ _ = true
        rw [h2, hhc, Bool.true_and, Bool.not_eq_true']
        cases hb : reachB H cn x y ((C[k]).getD 0 0) ((C[k]).getD 1 0)
        · rfl
        · exact absurd (reachB_iff.1 hb) hin
      have hf1 : [C[k]].filter p = [C[k]] := by rw [List.filter_cons, hpt]; rfl
      rw [hf1, List.length_append, List.length_singleton]
      have hFl : ((C.take k).filter p).length < F.length := by
        rw [hpre, List.length_append, hdk, List.filter_cons, hpt]
        simp
      have hFk : F[((C.take k).filter p).length] = C[k] := by
        have h5 : F[((C.take k).filter p).length]? = some C[k] := by
          rw [hpre, List.getElem?_append_right (Nat.le_refl _), Nat.sub_self, hdk, List.filter_cons, hpt]
          rfl
        rw [List.getElem?_eq_getElem hFl] at h5
        exact Option.some.inj h5
      have hAF : AllC H2 F := ⟨fun c hc => hC.two c (by rw [hF] at hc; exact (List.mem_filter.1 hc).1), by rw [hF]; exact hC.nodup.filter _, fun u v => by
        rw [hF, List.mem_filter, hC.iff, hp]
        show H u v = true ∧ H2 u v = true ↔ _
        exact ⟨fun h => h.2, fun h => ⟨((hiff u v).1 h).1, h⟩⟩⟩
      have hH2c : H2 ((C[k]).getD 0 0) ((C[k]).getD 1 0) = true := by rw [hp] at hpt; exact hpt
      have hoo : Old H2 cn (F.take ((C.take k).filter p).length) ((F[((C.take k).filter p).length]).getD 0 0) ((F[((C.take k).filter p).length]).getD 1 0) ↔ Old H cn (C.take k) ((C[k]).getD 0 0) ((C[k]).getD 1 0) := by
        rw [htk, hFk]
        constructor
        · rintro ⟨c, hc, hr⟩
          have hc2 := List.mem_filter.1 hc
          exact ⟨c, hc2.1, (reach_rest hiff (by have := hc2.2; rw [hp] at this; exact this) _ _).1 hr⟩
        · rintro ⟨c, hc, hr⟩
          have hcn : ¬ Reach H cn x y (c.getD 0 0) (c.getD 1 0) := fun h => hin (h.trans hr)
          have hpc : p c = true := by
            rw [hp]
            show H2 _ _ = true
            rw [h2, hr.has0, Bool.true_and, Bool.not_eq_true']
            cases hb : reachB H cn x y (c.getD 0 0) (c.getD 1 0)
            · rfl
            · exact absurd (reachB_iff.1 hb) hcn
          exact ⟨c, List.mem_filter.2 ⟨hc, hpc⟩, (reach_rest hiff (by rw [hp] at hpc; exact hpc) _ _).2 hr⟩
      refine ⟨e, ?_, fun hx => i2 ?_, fun hx => i3 fun ⟨c, hc, hr⟩ => hx ⟨c, List.mem_append_left _ hc, hr⟩⟩
      · by_cases ho : Old H cn (C.take k) ((C[k]).getD 0 0) ((C[k]).getD 1 0)
        · rw [sizes_old hkl ho, sizes_old hFl (hoo.2 ho)]
          exact i1
        · rw [sizes_new hkl ho (hC.piece _ _), sizes_new hFl (fun h => ho (hoo.1 h)) (hAF.piece _ _), List.length_append, List.length_append, i1]
          simp only [List.length_singleton]
          omega
      · obtain ⟨c, hc, hr⟩ := hx
        rcases List.mem_append.1 hc with hc | hc
        · exact ⟨c, hc, hr⟩
        · rw [List.mem_singleton] at hc
          subst hc
          exact absurd hr hin
end
/-- sorted lists with the same cells are one -/
theorem sorted_same {A B : List (List Int)} (hA : A.Pairwise ltL) (hB : B.Pairwise ltL) (h : ∀ c, c ∈ A ↔ c ∈ B) : A = B := by
  have nd : ∀ {L : List (List Int)}, L.Pairwise ltL → L.Nodup := fun hL => hL.imp fun {a b} hab e => by
    subst e
    exact ltL_asymm hab hab
  exact List.Perm.eq_of_pairwise (le := ltL) (fun a b _ _ h1 h2 => absurd h2 (ltL_asymm h1)) hA hB ((List.perm_ext_iff_of_nodup (nd hA) (nd hB)).2 h)
theorem rest_cells {P R : List Bl} (hP : Pic P) (hR : Pic R) {H2 : Int → Int → Bool} (h : ∀ U V, hasB R U V = H2 U V) (hsub : ∀ U V, H2 U V = true → hasB P U V = true) : specC R = (specC P).filter fun c => H2 (c.getD 0 0) (c.getD 1 0) := by
  refine sorted_same (specC_sorted _ R (Nat.le_refl _) hR.rising) (List.Pairwise.filter _ (specC_sorted _ P (Nat.le_refl _) hP.rising)) fun c => ?_
  rw [spec_mem hR.apart hR.bls, List.mem_filter, spec_mem hP.apart hP.bls, h]
  exact ⟨fun ⟨h1, h2⟩ => ⟨⟨h1, hsub _ _ h2⟩, h2⟩, fun ⟨h1, h2⟩ => ⟨h1.1, h2⟩⟩
/-- there is just one piece less -/
theorem one_less {P R : List Bl} {cn : Bool} {x y : Int} (hP : Pic P) (hR : Pic R) (hxy : hasB P x y = true) (h : ∀ U V, hasB R U V = (hasB P U V && !reachB (hasB P) cn x y U V)) :
    (sizesTo (hasB P) cn (specC P) (specC P).length).length = (sizesTo (hasB R) cn (specC R) (specC R).length).length + 1 := by
  have hC := AllC.of_pic hP
  have e := rest_cells hP hR (fun _ _ => rfl) (fun U V hh => by rw [h, Bool.and_eq_true] at hh; exact hh.1)
  obtain ⟨n, i1, i2, _⟩ := sizes_rest hC h (specC P).length (Nat.le_refl _)
  rw [List.take_length, ← e] at i1
  rw [i1, i2 ⟨[x, y], by rw [List.take_length]; exact (hC.iff x y).2 hxy, .start hxy⟩]
end Go.Proofs.Ytmagaapdijapiaa
namespace Go.Proofs.Ytmagaapdijapiaa
open Go.ChangeShapes Go.WideShapes Go.ChangeAt Go.RowKit
/-- what is told of a picture's cells -/
def cntV (l : List Bl) : Int × Int := if vpB l then (((specC l).length : Int), 0) else (0, 1)
def toldL (l : List Bl) : List (List Int) := if vpB l then (if (specC l).length ≤ 1024 then specC l else []) else []
def toldK (l : List Bl) : Int := if vpB l then (if (specC l).length ≤ 1024 then 0 else 3) else 1
def GivesToldC (L : List (List Int)) (k : Int) (w : World) (e : Ending) (w' : World) : Prop :=
  ∃ A c, e = .returned (.tuple #[.slice A L.length c, .int .i64 k]) ∧ Own w' w.heap.size w'.heap.size 60 2 A L.length c (pvs L) ∧ Below w.heap.size w w'
theorem GivesToldC.nil {w w' : World} {k : Int} (hb : Below w.heap.size w w') : GivesToldC [] k w (.returned (.tuple #[.slice none 0 0, .int .i64 k])) w' := ⟨none, 0, rfl, ⟨rfl, .inl ⟨rfl, rfl, rfl⟩⟩, hb⟩
theorem GivesToldC.lit {w w1 : World} {k : Int} (hb : Below w.heap.size w w1) : GivesToldC [] k w (.returned (.tuple #[.slice (some ⟨w1.heap.size, 0, none⟩) 0 0, .int .i64 k])) (w1.alloc (.cells #[] 60)) := by
  have h0 := World.ownsRow_lit (e := 60) (base := w.heap.size) (size := 2) w1 #[] 0 hb.size (by unfold maxLen; omega) rfl
  obtain ⟨A, c, he, ho⟩ := Own.of_row h0
  cases he
  exact ⟨_, _, rfl, ho, hb.alloc hb.size _⟩
theorem toldL_rows (l : List Bl) : Rows_ 2 (toldL l) := by
  rw [toldL]
  split
  · split
    · exact specC_rows l
    · exact fun f hf => by cases hf
  · exact fun f hf => by cases hf
theorem toldL_length (l : List Bl) : (toldL l).length ≤ 1024 := by
  rw [toldL]
  split
  · split
    · assumption
    · exact Nat.zero_le _
  · exact Nat.zero_le _
set_option maxRecDepth 20000 in
theorem iCountPicture_any (A : Option Addr) (n c : Nat) (l : List Bl) (hl : l.length = n) (hrow : Bls l) (h16 : ∀ b ∈ l, is16 b.2) (h32 : ∀ b ∈ l, ∀ x ∈ b.1, -2147483648 ≤ x ∧ x ≤ 2147483647) (hn : n ≤ 1048576) (w : World) (hR : Rd w w.heap.size 18 A n (bcs l)) :
    Calls Try.prog 41 #[.slice A n c] w fun e w' => e = .returned (.tuple #[.int .i64 (cntV l).1, .int .i64 (cntV l).2]) ∧ Below w.heap.size w w' := by
  have ho := fun W h => iValidPicture_any A n c l hl hrow h16 h32 hn W h
  have hv := fun h => vpic_of hrow h16 h
  have hc := fun h W hW => cellsOf_any A n c l hl (hv h) W hW
  have hlen := fun h => (hv h).count
  rw [cntV]
  clear hl hrow h16 h32 hv
  generalize specC l = S at *
  generalize vpB l = ok at *
  cases ok
  · clear hc
    go_enter Try.func41, Try.ntmps41
    go_wp2_with (go_at_call 33; refine (ho _ (hR.more (by first | exact Nat.le_refl _ | omega))).mono ?_; rintro e w1 ⟨rfl, b1⟩)
    go_ret2
    exact ⟨rfl, b1⟩
  · have hc' := hc rfl
    have hl' := hlen rfl
    clear hc hlen
    go_enter Try.func41, Try.ntmps41
    go_wp2_with (first
      | (go_at_call 33; refine (ho _ (hR.more (by first | exact Nat.le_refl _ | omega))).mono ?_; rintro e w1 ⟨rfl, b1⟩)
      | (go_at_call 70; refine (hc' _ ((hR.below b1 (Nat.le_refl _)).more b1.size)).mono ?_; rintro e w2 ⟨g, cc, rfl, hO, b2⟩))
    go_ret2
    exact ⟨rfl, b1.trans (b2.mono b1.size)⟩
set_option maxRecDepth 20000 in
theorem iCellsOfPicture_any (A : Option Addr) (n c : Nat) (l : List Bl) (hl : l.length = n) (hrow : Bls l) (h16 : ∀ b ∈ l, is16 b.2) (h32 : ∀ b ∈ l, ∀ x ∈ b.1, -2147483648 ≤ x ∧ x ≤ 2147483647) (hn : n ≤ 1048576) (w : World) (hR : Rd w w.heap.size 18 A n (bcs l)) :
    Calls Try.prog 32 #[.slice A n c] w (GivesToldC (toldL l) (toldK l) w) := by
  have ho := fun W h => iValidPicture_any A n c l hl hrow h16 h32 hn W h
  have hv := fun h => vpic_of hrow h16 h
  have hc := fun h W hW => cellsOf_any A n c l hl (hv h) W hW
  have hlen := fun h => (hv h).count
  rw [toldL, toldK]
  clear hl hrow h16 h32 hv
  generalize specC l = S at *
  generalize vpB l = ok at *
  cases ok
  · clear hc
    go_enter Try.func32, Try.ntmps32
    go_wp2_with (go_at_call 33; refine (ho _ (hR.more (by first | exact Nat.le_refl _ | omega))).mono ?_; rintro e w1 ⟨rfl, b1⟩)
    go_ret2
    exact GivesToldC.nil b1
  · have hc' := hc rfl
    have hl' := hlen rfl
    clear hc hlen
    simp only [if_true]
    by_cases hS : S.length ≤ 1024
    · rw [if_pos hS, if_pos hS]
      have hSI : (S.length : Int) ≤ 1024 := by omega
      go_enter Try.func32, Try.ntmps32
      go_wp2_with (first
        | (go_at_call 33; refine (ho _ (hR.more (by first | exact Nat.le_refl _ | omega))).mono ?_; rintro e w1 ⟨rfl, b1⟩)
        | (go_at_call 70; refine (hc' _ ((hR.below b1 (Nat.le_refl _)).more b1.size)).mono ?_; rintro e w2 ⟨g, cc, rfl, hO, b2⟩))
      go_ret2
      exact ⟨_, _, rfl, hO.less b1.size, b1.trans (b2.mono b1.size)⟩
    · rw [if_neg hS, if_neg hS]
      have hSI : 1024 < (S.length : Int) := by omega
      go_enter Try.func32, Try.ntmps32
      go_wp2_with (first
        | (go_at_call 33; refine (ho _ (hR.more (by first | exact Nat.le_refl _ | omega))).mono ?_; rintro e w1 ⟨rfl, b1⟩)
        | (go_at_call 70; refine (hc' _ ((hR.below b1 (Nat.le_refl _)).more b1.size)).mono ?_; rintro e w2 ⟨g, cc, rfl, hO, b2⟩))
      go_ret2
      exact GivesToldC.nil (b1.trans (b2.mono b1.size))
end Go.Proofs.Ytmagaapdijapiaa
namespace Go.Proofs.Ytmagaapdijapiaa
open Go.ChangeShapes Go.WideShapes Go.ChangeAt Go.RowKit
/-- a picture with one more cell -/
theorem pic_one (x y : Int) : ∃ Q, Pic Q ∧ ∀ U V, hasB Q U V = (decide (U = x) && decide (V = y)) := by
  have hbit : ∀ a b : Nat, bitB (setOr zr16 (y % 16).toNat (x % 16).toNat) a b = (decide (a = (x % 16).toNat) && decide (b = (y % 16).toNat)) := fun a b => by
    rw [setOr_bit rfl zr16_16 (by omega) (by omega), zr16_bit, Bool.false_or]
  refine ⟨[([x / 16, y / 16], setOr zr16 (y % 16).toNat (x % 16).toNat)], ⟨List.pairwise_singleton _ _, fun b hb => ?_, bls_one ⟨rfl, setOr_length rfl _ _⟩, fun b hb => ?_⟩, fun U V => ?_⟩
  · rw [List.mem_singleton] at hb
    subst hb
    intro e
    have h1 := hbit (x % 16).toNat (y % 16).toNat
    rw [show setOr zr16 (y % 16).toNat (x % 16).toNat = zr16 from e, zr16_bit] at h1
    simp at h1
  · rw [List.mem_singleton] at hb
    subst hb
    exact setOr_16 zr16_16 _ _
  · rw [hasB, maskAt_cons, maskAt_nil]
    by_cases e : [U / 16, V / 16] = [x / 16, y / 16]
    · rw [if_pos e, hbit, Bool.eq_iff_iff]
      simp only [List.cons.injEq, and_true] at e
      simp only [Bool.and_eq_true, decide_eq_true_iff]
      omega
    · rw [if_neg e, zr16_bit, eq_comm, Bool.and_eq_false_iff, decide_eq_false_iff_not, decide_eq_false_iff_not]
      by_cases e1 : U = x
      · refine .inr fun e2 => e ?_
        rw [e1, e2]
      · exact .inl e1
/-- there is a picture with any cells of a picture -/
theorem pic_sub {P : List Bl} (hP : Pic P) (E : Int → Int → Bool) (hE : ∀ U V, E U V = true → hasB P U V = true) : ∃ Q, Pic Q ∧ ∀ U V, hasB Q U V = E U V := by
  have hk : ∀ k, k ≤ (specC P).length → ∃ Q, Pic Q ∧ ∀ U V, hasB Q U V = (decide ([U, V] ∈ (specC P).take k) && E U V) := fun k => by
    induction k with
    | zero => exact fun _ => ⟨[], Pic.nil, fun U V => by rw [has_nil, List.take_zero]; simp⟩
    | succ k ih =>
      intro hk
      obtain ⟨Q, q1, q2⟩ := ih (by omega)
      have hm : (specC P)[k] ∈ specC P := List.getElem_mem (by omega)
      obtain ⟨x, y, hc⟩ : ∃ x y, (specC P)[k] = [x, y] := ⟨_, _, two_of ((spec_mem hP.apart hP.bls _).1 hm).1⟩
      have hkl : k < (specC P).length := by omega
      have htk : ∀ U V : Int, [U, V] ∈ (specC P).take (k + 1) ↔ [U, V] ∈ (specC P).take k ∨ (U = x ∧ V = y) := fun U V => by
        rw [take_mem_succ hkl, hc]
        simp
      cases hxy : E x y
      · refine ⟨Q, q1, fun U V => ?_⟩
        rw [q2, Bool.eq_iff_iff]
        simp only [Bool.and_eq_true, decide_eq_true_iff, htk]
        constructor
        · exact fun h => ⟨.inl h.1, h.2⟩
        · rintro ⟨h | ⟨rfl, rfl⟩, h2⟩
          · exact ⟨h, h2⟩
          · rw [hxy] at h2; cases h2
      · obtain ⟨O, o1, o2⟩ := pic_one x y
        obtain ⟨J, j1, _, j3, _⟩ := mix_pic orF orF_way q1 o1
        refine ⟨J, j1, fun U V => ?_⟩
        rw [hasOr q1 o1 j3, q2, o2, Bool.eq_iff_iff]
        simp only [Bool.or_eq_true, Bool.and_eq_true, decide_eq_true_iff, htk]
        constructor
        · rintro (h | ⟨rfl, rfl⟩)
          · exact ⟨.inl h.1, h.2⟩
          · exact ⟨.inr ⟨rfl, rfl⟩, hxy⟩
        · rintro ⟨h | h, h2⟩
          · exact .inl ⟨h, h2⟩
          · exact .inr h
  obtain ⟨Q, q1, q2⟩ := hk _ (Nat.le_refl _)
  refine ⟨Q, q1, fun U V => ?_⟩
  rw [q2, List.take_length, Bool.eq_iff_iff]
  simp only [Bool.and_eq_true, decide_eq_true_iff]
  exact ⟨fun h => h.2, fun h => ⟨(spec_mem hP.apart hP.bls _).2 ⟨rfl, hE U V h⟩, h⟩⟩
theorem picHas_sub {P : List Bl} (hP : Pic P) {E : Int → Int → Bool} (hE : ∀ U V, E U V = true → hasB P U V = true) : Pic (picHas E) ∧ ∀ U V, hasB (picHas E) U V = E U V := by
  obtain ⟨Q, q1, q2⟩ := pic_sub hP E hE
  rw [picHas_eq q1 q2]
  exact ⟨q1, q2⟩
/-- a few blocks round the middle -/
structure Small (l : List Bl) : Prop where
  pic : Pic l
  few : l.length ≤ 3
  near : ∀ b ∈ l, (-1 ≤ b.1.getD 0 0 ∧ b.1.getD 0 0 ≤ 1) ∧ (-1 ≤ b.1.getD 1 0 ∧ b.1.getD 1 0 ≤ 1)
theorem Small.vpic {l : List Bl} (h : Small l) : VPic l := vpic_of_small h.pic (by have := h.few; omega) fun b hb => by
  have := h.near b hb
  omega
theorem Small.vp {l : List Bl} (h : Small l) : vpB l = true := vp_of_vpic h.vpic
theorem Small.count {l : List Bl} (h : Small l) : (specC l).length ≤ 768 := by
  have h1 := specC_length l
  have h2 := h.few
  omega
theorem Small.nil : Small [] := ⟨Pic.nil, Nat.zero_le _, fun _b hb => (nomatch hb)⟩
theorem Small.i32 {l : List Bl} (h : Small l) : ∀ b ∈ l, ∀ x ∈ b.1, -2147483648 ≤ x ∧ x ≤ 2147483647 := fun b hb x hx => by
  have h1 := h.near b hb
  rw [two_of (h.pic.bls b hb).1] at hx
  simp only [List.mem_cons, List.not_mem_nil, or_false] at hx
  rcases hx with rfl | rfl <;> omega
theorem VPic.i32 {l : List Bl} (h : VPic l) : ∀ b ∈ l, ∀ x ∈ b.1, -2147483648 ≤ x ∧ x ≤ 2147483647 := fun b hb x hx => by
  have h1 := h.far b hb
  rw [two_of (h.pic.bls b hb).1] at hx
  simp only [List.mem_cons, List.not_mem_nil, or_false] at hx
  unfold inFar at h1
  rcases hx with rfl | rfl <;> omega
theorem cmbK_of {f : Int → Int → Int} {a b J : List Bl} (ha : vpB a = true) (hb : vpB b = true) (hJ : picOf (mixF f a b) = J) (hf : J.length ≤ 64) : cmbL f a b = J ∧ cmbK f a b = 0 := by
  rw [cmbL, cmbK, ha, hb, Bool.true_and, if_pos rfl, if_pos rfl, hJ, picR, picK, if_pos hf, if_pos hf]
  exact ⟨rfl, rfl⟩
theorem told_of {l : List Bl} (hv : vpB l = true) (hc : (specC l).length ≤ 1024) : toldL l = specC l ∧ toldK l = 0 := by
  rw [toldL, toldK, if_pos hv, if_pos hc, if_pos hv, if_pos hc]
  exact ⟨rfl, rfl⟩
/-! ### FnPieces -/
section
variable {P : List Bl} (h : Small P)
include h
theorem edge_small : edgK P = 0 ∧ VPic (edgL P) ∧ cmbL notF (edgL P) P = [] ∧ cmbK notF (edgL P) P = 0 ∧ (specC P = [] → edgL P = []) := by
  have he : edgL P = picHas (edgeB (hasB P)) := by rw [edgL, if_pos h.vp]
  have hs : ∀ U V, edgeB (hasB P) U V = true → hasB P U V = true := fun U V hh => by rw [edgeB, Bool.and_eq_true] at hh; exact hh.1
  obtain ⟨e1, e2⟩ := picHas_sub h.pic hs
  rw [← he] at e1 e2
  have hsub : ∀ U V, hasB (edgL P) U V = true → hasB P U V = true := fun U V hh => hs U V (by rw [← e2]; exact hh)
  have hv := VPic.sub e1 h.vpic hsub
  obtain ⟨J, j1, j2, j3, j4⟩ := mix_pic notF notF_way e1 h.pic
  have hJ : J = [] := pic_has j1 Pic.nil fun U V => by
    rw [hasNot e1 h.pic j3, has_nil]
    cases hh : hasB (edgL P) U V
    · rfl
    · rw [hsub U V hh]; rfl
  obtain ⟨k1, k2⟩ := cmbK_of (f := notF) (vp_of_vpic hv) h.vp j4 (by rw [hJ]; exact Nat.zero_le _)
  refine ⟨by rw [edgK, if_pos h.vp], hv, by rw [k1, hJ], k2, fun hn => pic_has e1 Pic.nil fun U V => ?_⟩
  rw [has_nil]
  cases hh : hasB (edgL P) U V
  · rfl
  · have := (spec_mem h.pic.apart h.pic.bls [U, V]).2 ⟨rfl, hsub U V hh⟩
    rw [hn] at this
    cases this
theorem sizes_small (cn : Bool) : psL P cn = sizesTo (hasB P) cn (specC P) (specC P).length ∧ (psL P cn).sum = ((specC P).length : Int) ∧ psK P = 0 := by
  have e : psL P cn = sizesTo (hasB P) cn (specC P) (specC P).length := by rw [psL, if_pos h.vp]
  exact ⟨e, by rw [e]; exact (AllC.of_pic h.pic).sum_all, by rw [psK, if_pos h.vp]⟩
theorem wide_small : (psL P true).length ≤ (psL P false).length := by
  rw [(sizes_small h true).1, (sizes_small h false).1]
  exact sizes_wide _ _ _ (Nat.le_refl _)
theorem piece_small {x y : Int} (hc : [x, y] ∈ specC P) (cn : Bool) :
    pcK P x y = 0 ∧ VPic (pcL P x y cn) ∧ hasV (pcL P x y cn) x y = (true, 0) ∧ cmbK notF P (pcL P x y cn) = 0 ∧ VPic (cmbL notF P (pcL P x y cn)) ∧
    (psL P cn).length = (psL (cmbL notF P (pcL P x y cn)) cn).length + 1 ∧ psK (cmbL notF P (pcL P x y cn)) = 0 ∧ psK (pcL P x y cn) = 0 ∧
    psL (pcL P x y cn) cn = [(cntV (pcL P x y cn)).1] ∧ (cntV (pcL P x y cn)).2 = 0 := by
  have hxy : hasB P x y = true := ((spec_mem h.pic.apart h.pic.bls [x, y]).1 hc).2
  have hcell : cellB x y = true := h.vpic.cells hxy
  have he : pcL P x y cn = picHas (reachB (hasB P) cn x y) := by rw [pcL, if_pos h.vp, if_pos hcell, if_pos hxy]
  have hs : ∀ U V, reachB (hasB P) cn x y U V = true → hasB P U V = true := fun U V hh => (reachB_iff.1 hh).has
  obtain ⟨e1, e2⟩ := picHas_sub h.pic hs
  rw [← he] at e1 e2
  have hv := VPic.sub e1 h.vpic (fun U V hh => hs U V (by rw [← e2]; exact hh))
  have hvp := vp_of_vpic hv
  generalize pcL P x y cn = S at *
  obtain ⟨J, j1, j2, j3, j4⟩ := mix_pic notF notF_way h.pic e1
  have hJ : ∀ U V, hasB J U V = (hasB P U V && !reachB (hasB P) cn x y U V) := fun U V => by rw [hasNot h.pic e1 j3, e2]
  have hJv := VPic.sub j1 h.vpic (fun U V hh => by rw [hJ, Bool.and_eq_true] at hh; exact hh.1)
  have hJp := vp_of_vpic hJv
  obtain ⟨k1, k2⟩ := cmbK_of (f := notF) h.vp hvp j4 hJv.few
  rw [k1, k2]
  have hfun : hasB S = reachB (hasB P) cn x y := funext fun U => funext fun V => e2 U V
  have hSx : hasB S x y = true := by rw [e2]; exact reachB_iff.2 (.start hxy)
  have hcnt : cntV S = (((specC S).length : Int), 0) := by rw [cntV, if_pos hvp]
  refine ⟨by rw [pcK, if_pos h.vp, if_pos hcell, if_pos hxy], hv, by rw [hasV, if_pos hvp, if_pos hcell, hSx], rfl, hJv, ?_, by rw [psK, if_pos hJp], by rw [psK, if_pos hvp], ?_, by rw [hcnt]⟩
  · rw [psL, psL, if_pos h.vp, if_pos hJp]
    exact one_less h.pic j1 hxy hJ
  · rw [hcnt, psL, if_pos hvp, hfun]
    exact own_piece (by rw [← hfun]; exact AllC.of_pic e1) hxy
end
end Go.Proofs.Ytmagaapdijapiaa
namespace Go.Proofs.Ytmagaapdijapiaa
open Go.ChangeShapes Go.WideShapes Go.ChangeAt Go.RowKit
def crd (C : List (List Int)) (i k : Nat) : Int := (C.getD i []).getD k 0
def loN (C : List (List Int)) (k : Nat) : Nat → Int
  | 0 => crd C 0 k
  | n + 1 => min (loN C k n) (crd C n k)
def hiN (C : List (List Int)) (k : Nat) : Nat → Int
  | 0 => crd C 0 k
  | n + 1 => max (hiN C k n) (crd C n k)
/-- number j's column, or row, is looked at where it is less than d -/
def loP (C : List (List Int)) (i d k : Nat) : Int := if k < d then loN C k (i + 1) else loN C k i
def hiP (C : List (List Int)) (i d k : Nat) : Int := if k < d then hiN C k (i + 1) else hiN C k i
theorem loN_in {C : List (List Int)} {k : Nat} {a b : Int} (h : ∀ i, a ≤ crd C i k ∧ crd C i k ≤ b) : ∀ n, a ≤ loN C k n ∧ loN C k n ≤ b
  | 0 => h 0
  | n + 1 => by
    have h1 := loN_in h n
    have h2 := h n
    rw [loN]
    omega
theorem hiN_in {C : List (List Int)} {k : Nat} {a b : Int} (h : ∀ i, a ≤ crd C i k ∧ crd C i k ≤ b) : ∀ n, a ≤ hiN C k n ∧ hiN C k n ≤ b
  | 0 => h 0
  | n + 1 => by
    have h1 := hiN_in h n
    have h2 := h n
    rw [hiN]
    omega
def loL (C : List (List Int)) (i d : Nat) : List Int := [loP C i d 0, loP C i d 1]
def hiL (C : List (List Int)) (i d : Nat) : List Int := [hiP C i d 0, hiP C i d 1]
theorem two_case {d : Nat} (h : d < 2) : d = 0 ∨ d = 1 := by omega
theorem loL_getD {C : List (List Int)} {i d : Nat} (h : d < 2) : (loL C i d).getD d 0 = loN C d i := by rcases two_case h with rfl | rfl <;> rfl
theorem hiL_getD {C : List (List Int)} {i d : Nat} (h : d < 2) : (hiL C i d).getD d 0 = hiN C d i := by rcases two_case h with rfl | rfl <;> rfl
theorem loL_set {C : List (List Int)} {i d : Nat} (h : d < 2) : (loL C i d).set d (loN C d (i + 1)) = loL C i (d + 1) := by rcases two_case h with rfl | rfl <;> rfl
theorem hiL_set {C : List (List Int)} {i d : Nat} (h : d < 2) : (hiL C i d).set d (hiN C d (i + 1)) = hiL C i (d + 1) := by rcases two_case h with rfl | rfl <;> rfl
theorem loL_same {C : List (List Int)} {i d : Nat} (h : d < 2) (e : loN C d (i + 1) = loN C d i) : loL C i d = loL C i (d + 1) := by
  rw [← loL_set h, e]
  rcases two_case h with rfl | rfl <;> rfl
theorem hiL_same {C : List (List Int)} {i d : Nat} (h : d < 2) (e : hiN C d (i + 1) = hiN C d i) : hiL C i d = hiL C i (d + 1) := by
  rw [← hiL_set h, e]
  rcases two_case h with rfl | rfl <;> rfl
theorem loL_next (C : List (List Int)) (i : Nat) : loL C i 2 = loL C (i + 1) 0 := rfl
theorem hiL_next (C : List (List Int)) (i : Nat) : hiL C i 2 = hiL C (i + 1) 0 := rfl
theorem loL_zero {C : List (List Int)} {x y : Int} (hi : 0 < C.length) (h : C[0] = [x, y]) : loL C 0 0 = [x, y] ∧ hiL C 0 0 = [x, y] := by
  obtain ⟨a, b⟩ : crd C 0 0 = x ∧ crd C 0 1 = y := by
    rw [crd, crd, getD_nil hi, h]
    exact ⟨rfl, rfl⟩
  refine ⟨?_, ?_⟩
  · show [crd C 0 0, crd C 0 1] = _
    rw [a, b]
  · show [crd C 0 0, crd C 0 1] = _
    rw [a, b]
theorem pvs_cell {l : List (List Int)} (h : Rows_ 2 l) {k : Nat} (hk : k < l.length) {w : World} {B b n : Nat} (hR : Rd w B 2 (some ⟨b, 0, none⟩) n (pvs l)) (hn : n = l.length) {d : Nat} (hd : d < 2) : w.cell? ⟨b, k * 2 + d, none⟩ = some (.int .i32 (crd l k d)) := by
  obtain ⟨b', o', he', hb, hc⟩ := hR.at_ (by omega)
  cases he'
  have h2 := Rd.rangeAt (i := k * 2) (s := 2) hc
  obtain ⟨x, y, he⟩ : ∃ x y, l[k] = [x, y] := ⟨_, _, two_of (h.at_ hk)⟩
  rw [pvs, ← List.map_drop, ← List.map_take, flat_row h hk, he] at h2
  have e : crd l k d = [x, y].getD d 0 := by rw [crd, getD_nil hk, he]
  have h3 := h2 d (.int .i32 (crd l k d)) (by rw [e]; rcases two_case hd with rfl | rfl <;> rfl)
  rwa [Nat.zero_add] at h3
theorem pvs_first {l : List (List Int)} (h : Rows_ 2 l) (hk : 0 < l.length) {w : World} {B b n : Nat} (hR : Rd w B 2 (some ⟨b, 0, none⟩) n (pvs l)) (hn : n = l.length) {x y : Int} (he : l[0] = [x, y]) : w.rangeAt b 0 [.int .i32 x, .int .i32 y] := by
  obtain ⟨b', o', he', hb, hc⟩ := hR.at_ (by omega)
  cases he'
  have h2 := Rd.rangeAt (i := 0 * 2) (s := 2) hc
  rw [pvs, ← List.map_drop, ← List.map_take, flat_row h hk, he] at h2
  exact h2
def frmL (l : List Bl) : List Int := if vpB l then (if (specC l).length = 0 then [0, 0] else loL (specC l) (specC l).length 0) else [0, 0]
def frmH (l : List Bl) : List Int := if vpB l then (if (specC l).length = 0 then [0, 0] else hiL (specC l) (specC l).length 0) else [0, 0]
def frmK (l : List Bl) : Int := if vpB l then (if (specC l).length = 0 then 6 else 0) else 1
theorem frmL_length (l : List Bl) : (frmL l).length = 2 := by
  rw [frmL]
  split
  · split <;> rfl
  · rfl
theorem frmH_length (l : List Bl) : (frmH l).length = 2 := by
  rw [frmH]
  split
  · split <;> rfl
  · rfl
theorem crd_at {C : List (List Int)} {i : Nat} (hi : i < C.length) {x y : Int} (h : C[i] = [x, y]) : crd C i 0 = x ∧ crd C i 1 = y := by
  rw [crd, crd, getD_nil hi, h]
  exact ⟨rfl, rfl⟩
/-- a picture without cells has no blocks -/
theorem VPic.cells_zero {l : List Bl} (h : VPic l) : (specC l).length = 0 ↔ l.length = 0 := by
  constructor
  · intro h0
    rcases Nat.eq_zero_or_pos l.length with h1 | h1
    · exact h1
    · have hb := List.getElem_mem h1
      obtain ⟨x, y, hx, hy, hbit⟩ := some_bit (h.pic.bls _ hb).2 (h.pic.m16 _ hb) (h.pic.noVoid _ hb)
      have h2 := has_of_mem h.pic.apart hb (h.pic.bls _ hb).1 hx hy
      rw [hbit] at h2
      have h3 := (spec_mem h.pic.apart h.pic.bls [16 * (l[0]).1.getD 0 0 + (x : Int), 16 * (l[0]).1.getD 1 0 + (y : Int)]).2 ⟨rfl, h2⟩
      rw [List.length_eq_zero_iff.1 h0] at h3
      cases h3
  · intro h0
    rw [List.length_eq_zero_iff.1 h0]
    have := specC_length []
    simp only [List.length_nil, Nat.mul_zero] at this
    omega
end Go.Proofs.Ytmagaapdijapiaa
namespace Go.Proofs.Ytmagaapdijapiaa
open Go.ChangeShapes Go.WideShapes Go.ChangeAt Go.RowKit
section
variable (C : List (List Int)) (k : Nat)
theorem loN_first : ∀ n, loN C k n ≤ crd C 0 k
  | 0 => Int.le_refl _
  | n + 1 => by have := loN_first n; rw [loN]; omega
theorem hiN_first : ∀ n, crd C 0 k ≤ hiN C k n
  | 0 => Int.le_refl _
  | n + 1 => by have := hiN_first n; rw [hiN]; omega
theorem loN_le : ∀ n i, i < n → loN C k n ≤ crd C i k
  | n + 1, i, h => by
    rw [loN]
    by_cases e : i = n
    · rw [e]; omega
    · have := loN_le n i (by omega)
      omega
theorem hiN_ge : ∀ n i, i < n → crd C i k ≤ hiN C k n
  | n + 1, i, h => by
    rw [hiN]
    by_cases e : i = n
    · rw [e]; omega
    · have := hiN_ge n i (by omega)
      omega
theorem loN_met : ∀ n, 0 < n → ∃ i, i < n ∧ crd C i k = loN C k n
  | n + 1, _ => by
    by_cases h : crd C n k < loN C k n
    · exact ⟨n, Nat.lt_succ_self _, by rw [loN]; omega⟩
    · rcases Nat.eq_zero_or_pos n with rfl | h0
      · exact ⟨0, Nat.lt_succ_self _, by rw [loN, loN]; omega⟩
      · obtain ⟨i, hi, he⟩ := loN_met n h0
        exact ⟨i, by omega, by rw [he, loN]; omega⟩
theorem hiN_met : ∀ n, 0 < n → ∃ i, i < n ∧ crd C i k = hiN C k n
  | n + 1, _ => by
    by_cases h : hiN C k n < crd C n k
    · exact ⟨n, Nat.lt_succ_self _, by rw [hiN]; omega⟩
    · rcases Nat.eq_zero_or_pos n with rfl | h0
      · exact ⟨0, Nat.lt_succ_self _, by rw [hiN, hiN]; omega⟩
      · obtain ⟨i, hi, he⟩ := hiN_met n h0
        exact ⟨i, by omega, by rw [he, hiN]; omega⟩
end
theorem crd_rows {l : List Bl} (h : Rising l) {i j : Nat} (hij : i ≤ j) (hj : j < (specC l).length) : crd (specC l) i 1 ≤ crd (specC l) j 1 := by
  by_cases e : i = j
  · rw [e]; exact Int.le_refl _
  · have hs := List.pairwise_iff_getElem.1 (specC_sorted _ l (Nat.le_refl _) h) i j (by omega) hj (by omega)
    rw [crd, crd, getD_nil hj, getD_nil (show i < (specC l).length by omega)]
    unfold ltL at hs
    omega
theorem low_row {l : List Bl} (h : Rising l) (h0 : 0 < (specC l).length) : crd (specC l) 0 1 = loN (specC l) 1 (specC l).length := by
  obtain ⟨i, hi, he⟩ := loN_met (specC l) 1 _ h0
  have h1 := crd_rows h (Nat.zero_le i) hi
  have h2 := loN_first (specC l) 1 (specC l).length
  omega
theorem high_row {l : List Bl} (h : Rising l) (h0 : 0 < (specC l).length) : crd (specC l) ((specC l).length - 1) 1 = hiN (specC l) 1 (specC l).length := by
  obtain ⟨i, hi, he⟩ := hiN_met (specC l) 1 _ h0
  have h1 := crd_rows h (show i ≤ (specC l).length - 1 by omega) (by omega)
  have h2 := hiN_ge (specC l) 1 (specC l).length ((specC l).length - 1) (by omega)
  omega
end Go.Proofs.Ytmagaapdijapiaa
namespace Go.Proofs.Ytmagaapdijapiaa
open Go.ChangeShapes Go.WideShapes Go.ChangeAt Go.RowKit
/-- what is told of some cells -/
noncomputable def pofL (cs : List (List Int)) : List Bl := if 1024 < cs.length then [] else if okCells cs then picR (picOf (toldM cs)) else []
noncomputable def pofK (cs : List (List Int)) : Int := if 1024 < cs.length then 3 else if okCells cs then picK (picOf (toldM cs)) else 2
def okC (f : List Int) : Bool := cellB (f.getD 0 0) (f.getD 1 0)
theorem okCells_no {cs : List (List Int)} {k : Nat} (hk : k < cs.length) (h : okC cs[k] = false) : okCells cs = false := by
  rw [okCells, List.all_eq_false]
  exact ⟨cs[k], List.getElem_mem hk, by rw [show cellB ((cs[k]).getD 0 0) ((cs[k]).getD 1 0) = okC cs[k] from rfl, h]; decide⟩
theorem okCells_all {cs : List (List Int)} (h : ∀ f ∈ cs, okC f = true) : okCells cs = true := by
  rw [okCells, List.all_eq_true]
  exact h
theorem toldT_succ {cs : List (List Int)} {lo : List Bl} {k : Nat} (hk : k < cs.length) (hm : ∀ key, maskAt lo key = toldM (cs.take k) key) {M : List Int} (hM : M = putC (maskAt lo (cornerL cs[k])) cs[k]) (key : List Int) : maskAt (putB lo (cornerL cs[k]) M) key = toldM (cs.take (k + 1)) key := by
  rw [putB_mask, toldM_succ cs hk, hm]
  by_cases e : key = cornerL cs[k]
  · rw [if_pos e, if_pos e, hM, hm, e]
  · rw [if_neg e, if_neg e]
theorem pvs_row {l : List (List Int)} (h : Rows_ 2 l) {k : Nat} (hk : k < l.length) {w : World} {B b o n : Nat} (hR : Rd w B 2 (some ⟨b, o, none⟩) n (pvs l)) (hn : n = l.length) : w.rangeAt b (o + k * 2) ((l[k]).map (.int .i32)) := by
  obtain ⟨b', o', he, hb, hc⟩ := hR.at_ (by omega)
  cases he
  have h2 := Rd.rangeAt (i := k * 2) (s := 2) hc
  rw [pvs, ← List.map_drop, ← List.map_take, flat_row h hk] at h2
  exact h2
set_option maxRecDepth 20000 in
set_option maxHeartbeats 6400000 in
theorem iPictureOf_any (A : Option Addr) (n c : Nat) (l : List (List Int)) (hl : l.length = n) (hrow : Rows_ 2 l) (h32 : ∀ f ∈ l, ∀ x ∈ f, -2147483648 ≤ x ∧ x ≤ 2147483647) (hn : n ≤ 1048576) (w : World) (hR : Rd w w.heap.size 2 A n (pvs l)) :
    Calls Try.prog 36 #[.slice A n c] w (GivesToldB (pofL l) (pofK l) w) := by
  rw [pofL, pofK, hl]
  by_cases hbig : 1024 < n
  · have hI : (1024 : Int) < n := by omega
    rw [if_pos hbig, if_pos hbig]
    clear hR h32
    go_enter Try.func36, Try.ntmps36
    go_wp2
    go_ret2
    exact GivesToldB.nil (Below.refl _ _)
  · have hI : (n : Int) ≤ 1024 := by omega
    rw [if_neg hbig, if_neg hbig]
    obtain ⟨R, K, hR1, hR2, hR0⟩ : ∃ R K, (okCells l = false → R = [] ∧ K = 2) ∧ (okCells l = true → R = picR (picOf (toldM l)) ∧ K = picK (picOf (toldM l))) ∧ (R = (if okCells l then picR (picOf (toldM l)) else []) ∧ K = (if okCells l then picK (picOf (toldM l)) else (2 : Int))) := by
      refine ⟨_, _, fun h => ?_, fun h => ?_, rfl, rfl⟩
      · simp [h]
      · simp [h]
    rw [← hR0.1, ← hR0.2]
    have HR1 := Lib.hid hR1
    have HR2 := Lib.hid hR2
    clear hR0 hR1 hR2
    have hmk : ∀ W : World, (Instr.makeMap 124 none).run Try.prog W = .ok (.map (some W.heap.size)) (W.alloc (.map #[] 0)) := fun _ => rfl
    have HR := Lib.hid hR
    have HL := Lib.hid hl
    have HROW := Lib.hid hrow
    have H0 : Hid ((w.alloc (.map #[] 0)).heap[w.heap.size]? = some (.map (ents [] 0).toArray ([] : List Bl).length) ∧ Below w.heap.size w (w.alloc (.map #[] 0))) := Lib.hid ⟨heap_alloc_new w _, (Below.refl _ _).alloc (Nat.le_refl _) _⟩
    have H32 := Lib.hid h32
    clear hR hl hrow h32
    go_enter Try.func36, Try.ntmps36
    go_wp2
    go_loopw [17] (fun i wr => ∃ k : Nat, k ≤ n ∧ i = .int .i64 k ∧ Hid (∀ f ∈ l.take k, okC f = true) ∧ ∃ lo, Hid (Tab lo) ∧ Hid (lo.length ≤ k) ∧ Hid (wr.heap[w.heap.size]? = some (.map (ents lo 0).toArray lo.length)) ∧ Hid (∀ key, maskAt lo key = toldM (l.take k) key) ∧ Hid (Below w.heap.size w wr)) (fun i _ => n - (intOf i).toNat)
    case atStart => exact ⟨0, by omega, rfl, Lib.hid (fun f hf => by simp at hf), [], Lib.hid Tab.nil, Lib.hid (Nat.le_refl _), Lib.hid H0.out.1, Lib.hid (fun key => rfl), Lib.hid H0.out.2⟩
    case round =>
      clear H0 hmk
      obtain ⟨k, hk, rfl, HOK, lo, HT, HLO, HG, HM, HB⟩ := hrel
      by_cases hlt : k < n
      · have hkl : k < l.length := by have := HL.out; omega
        have hkI : (k : Int) < n := by omega
        have hk0 : (0 : Int) ≤ k := by omega
        obtain ⟨b, o, rfl, hbB, _⟩ := HR.out.at_ (by omega)
        have hrg := pvs_row HROW.out hkl (HR.out.below HB.out (Nat.le_refl _)) HL.out.symm
        have h2 := HROW.out.at_ hkl
        have hst := fun M hM => toldT_succ (M := M) hkl HM.out hM
        have hno := fun h => okCells_no hkl h
        have hyes : okC l[k] = true → ∀ f ∈ l.take (k + 1), okC f = true := fun h f hf => by
          rw [List.take_succ_eq_append_getElem hkl, List.mem_append, List.mem_singleton] at hf
          rcases hf with hf | rfl
          · exact HOK.out f hf
          · exact h
        have h32 := H32.out _ (List.getElem_mem hkl)
        obtain ⟨F, hF⟩ : ∃ F, F = l[k] := ⟨_, rfl⟩
        rw [← hF] at hrg h2 hst hno hyes h32
        obtain ⟨x, y, rfl⟩ : ∃ x y, F = [x, y] := ⟨_, _, two_of h2⟩
        have hx32 := h32 x (by simp)
        have hy32 := h32 y (by simp)
        have hx0 := hx32.1
        have hx1 := hx32.2
        have hy0 := hy32.1
        have hy1 := hy32.2
        clear h32 hx32 hy32
        have hrg' : wr.rangeAt b (o + k * 2) [.int .i32 x, .int .i32 y] := hrg
        have HRG := Lib.hid hrg'
        have hok : okC [x, y] = cellB x y := rfl
        rw [hok] at hno hyes
        have HNO := Lib.hid hno
        have HYES := Lib.hid hyes
        have HST := Lib.hid hst
        have hcl := fun W => isCell_any x y W
        have HCELL := Lib.hid (fun h => cellB_in (x := x) (y := y) h)
        clear hF hrg hrg' h2 hst hno hyes hok
        cases hxy : cellB x y
        · rw [hxy] at hcl
          have HNO2 := Lib.hid (HNO.out hxy)
          clear hxy HNO HYES HCELL
          go_wp2_with (first
            | refine wpList_load_mid rfl _ _ rfl b (o + k * 2) (by rfl) [.int .i32 x, .int .i32 y] _ HRG.out Try.underlying60 rfl (by exact size60) ?_
            | (refine wpList_store_row rfl _ _ _ rfl wr.heap.size (ivs .i32 [x, y]) rfl rfl 60 #[.int .i32 0, .int .i32 0] (Blk.newAt rfl rfl) (by exact size60) rfl ivs_one ?_; generalize hw5 : World.setRow _ _ _ = w5; have G5 : Hid (Blk w5 wr.heap.size 60 (ivs .i32 [x, y])) := Lib.hid (by rw [← hw5]; exact (Blk.newAt rfl rfl).row _); have B5 : Hid (Below w.heap.size w w5) := Lib.hid (by rw [← hw5]; exact below_setRow (HB.out.alloc HB.out.size _) (g := wr.heap.size) HB.out.size _); have B5r : Hid (Below wr.heap.size wr w5) := Lib.hid (by rw [← hw5]; exact below_setRow ((Below.refl _ _).alloc (Nat.le_refl _) _) (g := wr.heap.size) (Nat.le_refl _) _); have c0 : w5.cell? ⟨wr.heap.size, 0, none⟩ = some (.int .i32 x) := G5.out.cellI (i := 0) (by simp); have c1 : w5.cell? ⟨wr.heap.size, 1, none⟩ = some (.int .i32 y) := G5.out.cellI (i := 1) (by simp); clear hw5)
            | (go_at_call 76; refine (hcl _).mono ?_; rintro e w3 ⟨rfl, rfl⟩))
          go_ret2
          rw [(HR1.out HNO2.out).1, (HR1.out HNO2.out).2]
          exact GivesToldB.nil B5.out
        · rw [hxy] at hcl
          obtain ⟨⟨hx2, hx3⟩, ⟨hy2, hy3⟩⟩ := HCELL.out hxy
          have HYES2 := Lib.hid (HYES.out hxy)
          obtain ⟨u, hu⟩ : ∃ u : Nat, (u : Int) = x % 16 := ⟨(x % 16).toNat, by omega⟩
          obtain ⟨v, hv⟩ : ∃ v : Nat, (v : Int) = y % 16 := ⟨(y % 16).toNat, by omega⟩
          have hba := fun W => blockAt_any x y (by omega) (by omega) W
          rw [← hu, ← hv] at hba
          obtain ⟨hM1, hM2⟩ := HT.out.mask [x / 16, y / 16]
          have hput : putC (maskAt lo (cornerL [x, y])) [x, y] = setOr (maskAt lo [x / 16, y / 16]) v u := by
            rw [putC, cornerL]
            simp only [List.getD_cons_zero, List.getD_cons_succ]
            rw [← hu, ← hv]
            rfl
          have hst2 := fun M (h : M = setOr (maskAt lo [x / 16, y / 16]) v u) => HST.out M (h.trans hput.symm)
          have hlkk := fun W h => run_lookupMask w.heap.size lo HT.out.bls (x / 16) (y / 16) lo.length W h
          have hlk0 := HG.out
          have hpp := fun M W h => run_putAny w.heap.size lo HT.out.bls (x / 16) (y / 16) M W h
          have htab := fun M hM h16 => HT.out.put (key := [x / 16, y / 16]) (M := M) rfl hM h16
          have hplen := fun M => putB_length [x / 16, y / 16] M lo
          have HBA := Lib.hid hba
          have HST2 := Lib.hid hst2
          have HLK := Lib.hid hlkk
          have HPP := Lib.hid hpp
          have HTAB := Lib.hid htab
          have HPL := Lib.hid hplen
          have hu16 : u < 16 := by omega
          have hv16 : v < 16 := by omega
          clear hxy HYES HNO HCELL hput hst2 hlkk hpp htab hplen HST hba hlk0
          generalize maskAt lo [x / 16, y / 16] = M at *
          have HM1 := Lib.hid hM1
          have HM2 := Lib.hid hM2
          obtain ⟨X, hX⟩ : ∃ X, X = x / 16 := ⟨_, rfl⟩
          obtain ⟨Y, hY⟩ : ∃ Y, Y = y / 16 := ⟨_, rfl⟩
          have hcor : cornerL [x, y] = [X, Y] := by rw [cornerL, hX, hY]; rfl
          rw [hcor] at HST2
          rw [← hX, ← hY] at HBA HLK HPP HTAB HPL
          clear hM1 hM2 hX hY hu hv hcor
          go_wp2_with (first
            | refine wpList_load_mid rfl _ _ rfl b (o + k * 2) (by rfl) [.int .i32 x, .int .i32 y] _ HRG.out Try.underlying60 rfl (by exact size60) ?_
            | (refine wpList_store_row rfl _ _ _ rfl wr.heap.size (ivs .i32 [x, y]) rfl rfl 60 #[.int .i32 0, .int .i32 0] (Blk.newAt rfl rfl) (by exact size60) rfl ivs_one ?_; generalize hw5 : World.setRow _ _ _ = w5; have G5 : Hid (Blk w5 wr.heap.size 60 (ivs .i32 [x, y])) := Lib.hid (by rw [← hw5]; exact (Blk.newAt rfl rfl).row _); have B5 : Hid (Below w.heap.size w w5) := Lib.hid (by rw [← hw5]; exact below_setRow (HB.out.alloc HB.out.size _) (g := wr.heap.size) HB.out.size _); have B5r : Hid (Below wr.heap.size wr w5) := Lib.hid (by rw [← hw5]; exact below_setRow ((Below.refl _ _).alloc (Nat.le_refl _) _) (g := wr.heap.size) (Nat.le_refl _) _); have c0 : w5.cell? ⟨wr.heap.size, 0, none⟩ = some (.int .i32 x) := G5.out.cellI (i := 0) (by simp); have c1 : w5.cell? ⟨wr.heap.size, 1, none⟩ = some (.int .i32 y) := G5.out.cellI (i := 1) (by simp); clear hw5)
            | (go_at_call 76; refine (hcl _).mono ?_; rintro e w3 ⟨rfl, rfl⟩)
            | (go_at_call 79; refine (HBA.out _).mono ?_; rintro e w6 ⟨rfl, b6⟩; have B6r := Lib.hid (B5r.out.trans (b6.mono B5r.out.size)); clear b6)
            | (refine wpList_store_row rfl _ _ _ rfl w6.heap.size (ivs .i32 [X, Y]) rfl rfl 63 #[.int .i32 0, .int .i32 0] (Blk.newAt rfl rfl) (by exact size63) rfl ivs_one ?_; generalize hw7 : World.setRow _ _ _ = w7; have G7 : Hid (Blk w7 w6.heap.size 63 (ivs .i32 [X, Y])) := Lib.hid (by rw [← hw7]; exact (Blk.newAt rfl rfl).row _); have B7r : Hid (Below wr.heap.size wr w7) := Lib.hid (by rw [← hw7]; exact below_setRow (B6r.out.alloc B6r.out.size _) (g := w6.heap.size) B6r.out.size _); have hlk : (Instr.lookup 124 (.map (some w.heap.size)) (.agg (ivs .i32 [X, Y])) false).run Try.prog w7 = .ok (.agg (ivs .u16 M)) w7 := HLK.out w7 ((B7r.out.block _ (heap_lt HG.out)).trans HG.out); clear hw7)
            | refine wpList_load_row rfl _ _ rfl w6.heap.size rfl 63 (ivs .i32 [X, Y]) (0, 0) _ G7.out Try.underlying63 rfl (by exact size63) ?_
            | (refine wpList_store_row rfl _ _ _ rfl w7.heap.size (ivs .u16 M) rfl rfl 76 (ivs .u16 zr16) (Blk.newAt rfl rfl) (by rw [ivs_size, HM1.out]; exact size76) (by rw [ivs_size, ivs_size, HM1.out]; rfl) ivs_one ?_; generalize hw8 : World.setRow _ _ _ = w8; have G8m : Hid (Blk w8 w7.heap.size 76 (ivs .u16 M)) := Lib.hid (by rw [← hw8]; exact (Blk.newAt rfl rfl).row _); have G8 : Hid (Blk w8 w6.heap.size 63 (ivs .i32 [X, Y])) := Lib.hid (by rw [← hw8]; exact (G7.out.alloc _).rowFar (by have := G7.out.lt; omega) _); have B8r : Hid (Below wr.heap.size wr w8) := Lib.hid (by rw [← hw8]; exact below_setRow (B7r.out.alloc B7r.out.size _) (g := w7.heap.size) B7r.out.size _); clear hw8))
          have c8 := G8m.out.getAtG (i := v) (by rw [HM1.out]; exact hv16)
          have f8 := G8m.out.frozen v
          have hvI : (v : Int) < 16 := by omega
          have hv0 : (0 : Int) ≤ v := by omega
          have huI : (u : Int) < 16 := by omega
          have hu0 : (0 : Int) ≤ u := by omega
          obtain ⟨m8, hm8⟩ : ∃ m8, m8 = M.getD v 0 := ⟨_, rfl⟩
          rw [← hm8] at c8
          have hp16 := pow_16 hu16
          have hwp : IntKind.u16.wrap (2 ^ u) = 2 ^ u := by rw [IntKind.wrap_u16]; omega
          have hso : setOr M v u = M.set v (orF m8 (2 ^ u)) := by rw [setOr, hm8]
          have g9 : Blk (w8.setCell ⟨w7.heap.size, v, none⟩ (.int .u16 (orF m8 (2 ^ u)))).drew w7.heap.size 76 (ivs .u16 (setOr M v u)) := by rw [hso]; exact (G8m.out.setI v _).drew
          have G9m := Lib.hid g9
          have G9 : Hid (Blk (w8.setCell ⟨w7.heap.size, v, none⟩ (.int .u16 (orF m8 (2 ^ u)))).drew w6.heap.size 63 (ivs .i32 [X, Y])) := Lib.hid ((G8.out.far (p := ⟨w7.heap.size, v, none⟩) (show w6.heap.size ≠ w7.heap.size by have := G7.out.lt; omega) _).drew)
          have B9r : Hid (Below wr.heap.size wr (w8.setCell ⟨w7.heap.size, v, none⟩ (.int .u16 (orF m8 (2 ^ u)))).drew) := Lib.hid (below_drew (B8r.out.setCell (p := ⟨w7.heap.size, v, none⟩) (show wr.heap.size ≤ w7.heap.size by have := B7r.out.size; omega) _))
          have HSL : Hid ((setOr M v u).length = 16) := Lib.hid (setOr_length HM1.out v u)
          have HS16 := Lib.hid (setOr_16 HM2.out v u)
          have HST3 := Lib.hid (HST2.out _ rfl)
          have HPL2 := Lib.hid (HPL.out (setOr M v u))
          have HTAB2 := Lib.hid (HTAB.out (setOr M v u) HSL.out HS16.out)
          have HPP2 := Lib.hid (fun W h => HPP.out (setOr M v u) W h)
          clear hm8 hso g9 hp16 HST2 HPL HTAB HPP HM2
          generalize setOr M v u = S at *
          go_region
          have hob : orF m8 (2 ^ u) = bits .or .u16 m8 (2 ^ u) := rfl
          rw [← hob]
          generalize (w8.setCell ⟨w7.heap.size, v, none⟩ (.int .u16 (orF m8 (2 ^ u)))).drew = w9 at *
          have hmu : (Instr.mapUpdate 124 (.map (some w.heap.size)) (.agg (ivs .i32 [X, Y])) (.agg (ivs .u16 S))).run Try.prog w9 = .ok () (ChangeMaps.setBlock w9 w.heap.size (.map (ents (putB lo [X, Y] S) 0).toArray (putB lo [X, Y] S).length)) := HPP2.out w9 ((B9r.out.block _ (heap_lt HG.out)).trans HG.out)
          go_wp2_with (first
            | refine wpList_load_row rfl _ _ rfl w6.heap.size rfl 63 (ivs .i32 [X, Y]) (0, 0) _ G9.out Try.underlying63 rfl (by exact size63) ?_
            | refine wpList_load_row rfl _ _ rfl w7.heap.size rfl 76 (ivs .u16 S) (0, 0) _ G9m.out Try.underlying76 rfl (by rw [ivs_size, HSL.out]; exact size76) ?_)
          refine ⟨⟨k + 1, by omega, by go_num, HYES2, putB lo [X, Y] S, HTAB2, Lib.hid (by have := HPL2.out; have := HLO.out; omega), Lib.hid (setBlock_at _ _ _ ?_), HST3, Lib.hid (below_setBlock (HB.out.trans (B9r.out.mono HB.out.size)) (Nat.le_refl _) _)⟩, by simp [intOf]; omega⟩
          have h1 := heap_lt HG.out
          have h2 := B9r.out.size
          omega
      · obtain rfl : k = n := by omega
        have hok := HOK.out
        have hm := HM.out
        rw [List.take_of_length_le (by have := HL.out; omega)] at hok
        simp only [List.take_of_length_le (show l.length ≤ k by have := HL.out; omega)] at hm
        have hfe : maskAt lo = toldM l := funext hm
        have HP := Lib.hid (pictureOf_any w.heap.size lo HT.out (by have := HLO.out; omega) wr HG.out (heap_lt HG.out))
        rw [hfe, ← (HR2.out (okCells_all hok)).1, ← (HR2.out (okCells_all hok)).2] at HP
        clear hok hm hfe HOK HM HT HLO HG
        go_wp2_with (go_at_call 80; refine HP.out.mono ?_; rintro e w9 ⟨A9, c9, rfl, o9, b9⟩; have HO9 := Lib.hid o9; have HB9 := Lib.hid (HB.out.trans (b9.mono HB.out.size)); clear o9 b9)
        go_ret2
        exact ⟨A9, c9, rfl, HO9.out.less HB.out.size, HB9.out⟩
end Go.Proofs.Ytmagaapdijapiaa
namespace Go.Proofs.Ytmagaapdijapiaa
open Go.ChangeShapes Go.WideShapes Go.ChangeAt Go.RowKit
section
variable {P Q : List Bl} (h : Small P)
include h
/-- joined, met, taken away: told without a fault, and counted -/
theorem mix_small (h2 : Small Q) : (cmbK orF P Q = 0 ∧ VPic (cmbL orF P Q)) ∧ (cmbK andF P Q = 0 ∧ VPic (cmbL andF P Q)) ∧ (cmbK notF P Q = 0 ∧ VPic (cmbL notF P Q)) ∧
    (specC (cmbL orF P Q)).length + (specC (cmbL andF P Q)).length = (specC P).length + (specC Q).length ∧ (specC (cmbL notF P Q)).length + (specC (cmbL andF P Q)).length = (specC P).length := by
  obtain ⟨J, j1, j2, j3, j4⟩ := mix_pic orF orF_way h.pic h2.pic
  obtain ⟨M, m1, m2, m3, m4⟩ := mix_pic andF andF_way h.pic h2.pic
  obtain ⟨D, d1, d2, d3, d4⟩ := mix_pic notF notF_way h.pic h2.pic
  have j5 := hasOr h.pic h2.pic j3
  have m5 := hasAnd h.pic h2.pic m3
  have d5 := hasNot h.pic h2.pic d3
  have hf1 := h.few
  have hf2 := h2.few
  have vM : VPic M := VPic.sub m1 h.vpic fun U V hh => by rw [m5, Bool.and_eq_true] at hh; exact hh.1
  have vD : VPic D := VPic.sub d1 h.vpic fun U V hh => by rw [d5, Bool.and_eq_true] at hh; exact hh.1
  have vJ : VPic J := vpic_of_small j1 (by omega) fun b hb => by
    obtain ⟨x, y, hx, hy, hbit⟩ := some_bit (j1.bls b hb).2 (j1.m16 b hb) (j1.noVoid b hb)
    have e1 := has_of_mem j1.apart hb (j1.bls b hb).1 hx hy
    rw [hbit, j5, Bool.or_eq_true] at e1
    rcases e1 with e1 | e1
    · obtain ⟨b', hb', hk, _⟩ := has_mem e1
      have hn := h.near b' hb'
      rw [hk] at hn
      simp only [List.getD_cons_zero, List.getD_cons_succ] at hn
      omega
    · obtain ⟨b', hb', hk, _⟩ := has_mem e1
      have hn := h2.near b' hb'
      rw [hk] at hn
      simp only [List.getD_cons_zero, List.getD_cons_succ] at hn
      omega
  obtain ⟨a1, a2⟩ := cmbK_of (f := orF) h.vp h2.vp j4 vJ.few
  obtain ⟨b1, b2⟩ := cmbK_of (f := andF) h.vp h2.vp m4 vM.few
  obtain ⟨c1, c2⟩ := cmbK_of (f := notF) h.vp h2.vp d4 vD.few
  rw [a1, a2, b1, b2, c1, c2]
  exact ⟨⟨rfl, vJ⟩, ⟨rfl, vM⟩, ⟨rfl, vD⟩, counts h.pic h2.pic j1 m1 d1 j5 m5 d5⟩
/-- a picture of its cells -/
theorem again_small (h5 : (specC P).length ≤ 512) : pofL ((specC P).reverse ++ specC P) = P ∧ pofK ((specC P).reverse ++ specC P) = 0 := by
  have hm : ∀ c, c ∈ (specC P).reverse ++ specC P ↔ c ∈ specC P := fun c => by rw [List.mem_append, List.mem_reverse, or_self]
  have h2 : ∀ c ∈ (specC P).reverse ++ specC P, c.length = 2 := fun c hc => ((spec_mem h.pic.apart h.pic.bls c).1 ((hm c).1 hc)).1
  have hp := picOf_cells h.pic h2 hm
  have hl : ¬ 1024 < ((specC P).reverse ++ specC P).length := by rw [List.length_append, List.length_reverse]; omega
  have hok : okCells ((specC P).reverse ++ specC P) = true := okCells_all fun f hf => h.vpic.cells ((spec_mem h.pic.apart h.pic.bls f).1 ((hm f).1 hf)).2
  have h64 : P.length ≤ 64 := h.vpic.few
  rw [pofL, pofK, if_neg hl, if_neg hl, if_pos hok, if_pos hok, hp, picR, picK, if_pos h64, if_pos h64]
  exact ⟨rfl, rfl⟩
theorem cell_small {k : Nat} (hk : k < (specC P).length) : ∃ x y, (specC P)[k] = [x, y] ∧ hasV P x y = (true, 0) ∧ cellB x y = true := by
  have hm := (spec_mem h.pic.apart h.pic.bls _).1 (List.getElem_mem hk)
  have e := two_of hm.1
  have hc := h.vpic.cells hm.2
  exact ⟨_, _, e, by rw [hasV, if_pos h.vp, if_pos hc, hm.2], hc⟩
theorem rows_small {k : Nat} (hk : k + 1 < (specC P).length) : ltL (specC P)[k] (specC P)[k + 1] :=
  List.pairwise_iff_getElem.1 (specC_sorted _ P (Nat.le_refl _) h.pic.rising) k (k + 1) (by omega) hk (by omega)
theorem count_small : cntV P = (((specC P).length : Int), 0) := by rw [cntV, if_pos h.vp]
theorem frame_small : frmK P = (if (specC P).length = 0 then 6 else 0) ∧ (0 < (specC P).length → frmL P = [loN (specC P) 0 (specC P).length, loN (specC P) 1 (specC P).length] ∧ frmH P = [hiN (specC P) 0 (specC P).length, hiN (specC P) 1 (specC P).length]) := by
  refine ⟨by rw [frmK, if_pos h.vp], fun h0 => ?_⟩
  rw [frmL, frmH, if_pos h.vp, if_pos h.vp, if_neg (by omega), if_neg (by omega)]
  exact ⟨rfl, rfl⟩
end
theorem VPic.cnt {P : List Bl} (h : VPic P) : cntV P = (((specC P).length : Int), 0) := by rw [cntV, if_pos (vp_of_vpic h)]
end Go.Proofs.Ytmagaapdijapiaa
namespace Go.Proofs.Ytmagaapdijapiaa
open Go.ChangeShapes Go.WideShapes Go.ChangeAt Go.RowKit

theorem size87 : (Try.prog.info? 87).map (·.size) = some 16 := by kernel_rfl
theorem size138 : (Try.prog.info? 138).map (·.size) = some 12 := by kernel_rfl
theorem size86 : (Try.prog.info? 86).map (·.size) = some 16 := by kernel_rfl

set_option maxHeartbeats 400000 in
theorem toFrame_any (L : List Int) (hL : L.length = 16) (w : World) :
    Calls Try.prog 56 #[.agg (ivs .u8 L)] w fun e w' => e = .returned (.agg (ivs .u8 L)) ∧ Below w.heap.size w w' := by
  go_enter Try.func56, Try.ntmps56
  go_wp2
  go_loopw [4] (fun i wr => ∃ k : Nat, k ≤ 16 ∧ i = .int .i64 k ∧ Blk wr w.heap.size 86 (ivs .u8 L) ∧ Blk wr (w.heap.size + 1) 87 (ivs .u8 (List.replicate 16 0)) ∧ Blk wr (w.heap.size + 1 + 1) 87 (ivs .u8 (L.take k ++ List.replicate (16 - k) 0)) ∧ wr.heap.size = w.heap.size + 1 + 1 + 1 ∧ Below w.heap.size w wr) (fun i _ => 16 - (intOf i).toNat)
  case atStart =>
    exact ⟨0, by omega, rfl, ((Blk.newAt rfl rfl).alloc _).alloc _, (Blk.newAt (by simp) rfl).alloc _, Blk.newAt (by simp) rfl, by simp, (((Below.refl _ _).alloc (Nat.le_refl _) _).alloc (by simp) _).alloc (by simp; omega) _⟩
  case round =>
    obtain ⟨k, hk, rfl, h1, h2, h3, hz, hb⟩ := hrel
    by_cases hlt : k < 16
    · have c1 := h1.cellI (i := k) (by omega)
      have c3 := h3.cellI (i := k) (by simp; omega)
      have f3 := h3.frozen k
      go_wp2
      go_roundw
      case rel =>
        refine ⟨k + 1, by omega, by go_num, h1.far (by simp; omega) _, h2.far (by simp) _, ?_, ?_, ?_⟩
        · rw [← fill_step hL hlt]; exact h3.setI _ _
        · rw [size_setCell]; exact hz
        · exact hb.setCell (by simp; omega) _
      case measure => simp [intOf]; omega
    · have : k = 16 := by omega
      subst this
      rw [fill_end hL] at h3
      go_wp2_with (first
        | refine wpList_load_row rfl _ _ rfl (w.heap.size + 1 + 1) rfl 87 (ivs .u8 L) (0, 0) _ h3 Try.underlying87 rfl (by rw [ivs_size, hL]; exact size87) ?_
        | refine wpList_store_row rfl _ _ _ rfl (w.heap.size + 1) (ivs .u8 L) rfl rfl 87 _ h2 (by rw [ivs_size, hL]; exact size87) (by simp [ivs_size, hL]) ivs_one ?_)
      exact bodyPost_ret (results_cell_row rfl _ _ (w.heap.size + 1) 87 (ivs .u8 L) (0, 0) _ rfl (h2.row _) Try.underlying87 rfl (by rw [ivs_size, hL]; exact size87)) rfl ⟨rfl, below_setRow hb (by omega) _⟩

set_option maxHeartbeats 400000 in
theorem sPayloadOf_any (L : List Int) (hL : L.length = 16) (w : World) :
    Calls Try.prog 147 #[.agg (ivs .u8 L)] w fun e w' => e = .returned (.agg (ivs .u8 (L.take 12))) ∧ Below w.heap.size w w' := by
  go_enter Try.func147, Try.ntmps147
  go_wp2
  go_loopw [4] (fun i wr => ∃ k : Nat, k ≤ 12 ∧ i = .int .i64 k ∧ Blk wr w.heap.size 87 (ivs .u8 L) ∧ Blk wr (w.heap.size + 1) 138 (ivs .u8 (List.replicate 12 0)) ∧ Blk wr (w.heap.size + 1 + 1) 138 (ivs .u8 ((L.take 12).take k ++ List.replicate (12 - k) 0)) ∧ wr.heap.size = w.heap.size + 1 + 1 + 1 ∧ Below w.heap.size w wr) (fun i _ => 12 - (intOf i).toNat)
  case atStart =>
    exact ⟨0, by omega, rfl, ((Blk.newAt rfl rfl).alloc _).alloc _, (Blk.newAt (by simp) rfl).alloc _, Blk.newAt (by simp) rfl, by simp, (((Below.refl _ _).alloc (Nat.le_refl _) _).alloc (by simp) _).alloc (by simp; omega) _⟩
  case round =>
    obtain ⟨k, hk, rfl, h1, h2, h3, hz, hb⟩ := hrel
    have hL' : (L.take 12).length = 12 := by simp [hL]
    by_cases hlt : k < 12
    · have c1 := h1.cellI (i := k) (by omega)
      have c3 := h3.cellI (i := k) (by simp; omega)
      have f3 := h3.frozen k
      go_wp2
      go_roundw
      case rel =>
        refine ⟨k + 1, by omega, by go_num, h1.far (by simp; omega) _, h2.far (by simp) _, ?_, ?_, ?_⟩
        · rw [← fill_at hL' hlt 0 (x := L[k]'(by omega)) (by simp [hlt])]; exact h3.setI _ _
        · rw [size_setCell]; exact hz
        · exact hb.setCell (by simp; omega) _
      case measure => simp [intOf]; omega
    · have : k = 12 := by omega
      subst this
      rw [fill_end hL'] at h3
      go_wp2_with (first
        | refine wpList_load_row rfl _ _ rfl (w.heap.size + 1 + 1) rfl 138 (ivs .u8 (L.take 12)) (0, 0) _ h3 Try.underlying138 rfl (by rw [ivs_size, hL']; exact size138) ?_
        | refine wpList_store_row rfl _ _ _ rfl (w.heap.size + 1) (ivs .u8 (L.take 12)) rfl rfl 138 _ h2 (by rw [ivs_size, hL']; exact size138) (by simp [ivs_size, hL']) ivs_one ?_)
      exact bodyPost_ret (results_cell_row rfl _ _ (w.heap.size + 1) 138 (ivs .u8 (L.take 12)) (0, 0) _ rfl (h2.row _) Try.underlying138 rfl (by rw [ivs_size, hL']; exact size138)) rfl ⟨rfl, below_setRow hb (by omega) _⟩
set_option maxHeartbeats 400000 in
theorem iPayloadOf_any (L : List Int) (hL : L.length = 16) (w : World) :
    Calls Try.prog 148 #[.agg (ivs .u8 L)] w fun e w' => e = .returned (.agg (ivs .u8 (L.take 12))) ∧ Below w.heap.size w w' := by
  go_enter Try.func148, Try.ntmps148
  have harr := fun (a : Option Addr) (x : World) => run_arrayAt (P := Try.prog) (w := x) 138 5 12 a 12 16 Try.underlying138 (by omega)
  have hb1 : Blk ((w.alloc (.cells (ivs .u8 L) 87)).alloc (.cells (ivs .u8 (List.replicate 12 0)) 138)) w.heap.size 87 (ivs .u8 L) := (Blk.newAt rfl rfl).alloc _
  have hb2 : Blk ((w.alloc (.cells (ivs .u8 L) 87)).alloc (.cells (ivs .u8 (List.replicate 12 0)) 138)) (w.heap.size + 1) 138 (ivs .u8 (List.replicate 12 0)) := Blk.newAt (by simp) rfl
  go_wp2_with (first
        | refine wpList_load_mid rfl _ _ rfl w.heap.size 0 rfl ((L.take 12).map (Value.int .u8)) _ (hb1.range 0 12) Try.underlying138 rfl (by rw [List.length_map, List.length_take, hL]; exact size138) ?_
        | refine wpList_store_row rfl _ _ _ rfl (w.heap.size + 1) (ivs .u8 (L.take 12)) rfl rfl 138 _ hb2 (by rw [ivs_size, List.length_take, hL]; exact size138) (by simp [ivs_size, hL]) ivs_one ?_)
  exact bodyPost_ret (results_cell_row rfl _ _ (w.heap.size + 1) 138 (ivs .u8 (L.take 12)) (0, 0) _ rfl (hb2.row _) Try.underlying138 rfl (by rw [ivs_size, List.length_take, hL]; exact size138)) rfl ⟨rfl, below_setRow (((Below.refl _ _).alloc (Nat.le_refl _) _).alloc (by simp) _) (by omega) _⟩

set_option maxHeartbeats 400000 in
theorem eqFrame_same (L : List Int) (hL : L.length = 16) (w : World) :
    Calls Try.prog 50 #[.agg (ivs .u8 L), .agg (ivs .u8 L)] w fun e w' => e = .returned (.bool true) ∧ Below w.heap.size w w' := by
  go_enter Try.func50, Try.ntmps50
  go_wp2_with fail
  go_loopw [5] (fun i wr => ∃ k : Nat, k ≤ 16 ∧ i = .int .i64 k ∧ Blk wr w.heap.size 87 (ivs .u8 L) ∧ Blk wr (w.heap.size + 1) 87 (ivs .u8 L) ∧ Below w.heap.size w wr) (fun i _ => 16 - (intOf i).toNat)
  case atStart =>
    exact ⟨0, by omega, rfl, (Blk.newAt rfl rfl).alloc _, Blk.newAt (by simp) rfl, ((Below.refl _ _).alloc (Nat.le_refl _) _).alloc (by simp) _⟩
  case round =>
    obtain ⟨k, hk, rfl, h1, h2, hb⟩ := hrel
    by_cases hlt : k < 16
    · have c1 := h1.cellI (i := k) (by omega)
      have c2 := h2.cellI (i := k) (by omega)
      go_wp2
      go_quiet (fail)
      go_wp2
      go_roundw
      case rel => exact ⟨k + 1, by omega, by go_num, h1.drewN _, h2.drewN _, below_drewN hb _⟩
      case measure => simp [intOf]; omega
    · go_wp2
      go_ret
      exact ⟨rfl, hb⟩
end Go.Proofs.Ytmagaapdijapiaa
