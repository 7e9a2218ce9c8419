/- All cells of a picture: the reference's walk. -/
import Derived.Test.YtmagaapdijapiaaRows
import Derived.Test.YtmagaapdijapiaaCy
import Derived.Deep.RegionLaw
namespace Go.Proofs.Ytmagaapdijapiaa
open Go.ChangeShapes Go.WideShapes Go.ChangeAt Go.RowKit
theorem step_append_own {P : Program} {ops : Array Oper} {o : Oper} {a : Act} {w : World} {K : Act → World → Prop} {Q : Exit → Act → World → Prop} {E : Prop}
    (hg : o.guard = none) (s x : Operand) (t : TypeId) (hop : o.op = Op.call { callee := Callee.builtin Builtin.append, args := #[s, x], argTypes := #[t, t] })
    (base : Nat) (e : TypeId) (i : TypeInfo) (z : Value) (size bytes : Nat) (h1 : P.underlying t = some (.slice e)) (h2 : P.info? e = some i) (h3 : i.zero = some z) (h4 : i.size = size) (h5 : i.bytes = bytes) (h6 : z.cells.size = size) (h7 : 0 < size)
    (v : Value) (k : Nat) (xs : List Value) (hs : a.eval s = v) (hown : w.ownsRow base e size v k xs) (ad : Addr) (m c : Nat) (news : List Value) (hx : a.eval x = .slice (some ad) m c) (hn : news.length = m * size)
    (hc : ∀ j u, news[j]? = some u → w.cell? (ad.add j) = some u) (h1c : ∀ u ∈ news, u.oneCell' = true) (b1 : k + m ≤ maxLen) (b2 : (k + m) * bytes ≤ 140737488355328) (b3 : base ≤ w.heap.size)
    (hK : ∀ v' w', w'.ownsRow base e size v' (k + m) (xs ++ news) → w.grownBy w' v.ownBlock → K (a.put o.dst v') w') :
    if Region.wanted o (yielded ops a.tmps) = true then Oper.wp P o a w K Q else E := by
  have hw : Region.wanted o (yielded ops a.tmps) = true := by simp [Region.wanted, hg]
  rw [if_pos hw]
  subst hs
  obtain ⟨v', w', hrun, r1, r2, _⟩ := run_append_own (P := P) w base t o.type e i z size bytes h1 h2 h3 h4 h5 h6 h7 _ k xs hown ad m c news hn hc h1c b1 b2 b3
  unfold Oper.wp
  simp [execOp, hop, resolve, invoke, builtin, hx, hrun, Result.andThen]
  exact hK v' w' r1 r2
set_option maxHeartbeats 1600000 in
theorem l07HasAt_any (g o : Nat) (M : List Int) (hM : M.length = 16) (h16 : is16 M) (x y : Nat) (hx : x < 16) (hy : y < 16) (w : World) (h : w.rangeAt g o (M.map (.int .u16))) :
    Calls Try.prog 89 #[.pointer (some ⟨g, o, none⟩), .int .i64 x, .int .i64 y] w fun e w' => e = .returned (.bool (bitB M x y)) ∧ w = w' := by
  have c1 : w.cell? ⟨g, o + y, none⟩ = some (.int .u16 (M.getD y 0)) := h y _ (by rw [List.getElem?_map, List.getD_eq_getElem?_getD, List.getElem?_eq_getElem (by omega)]; rfl)
  obtain ⟨v0, v1⟩ := h16.getD y
  have hb : bitB M x y = decide (M.getD y 0 / 2 ^ x % 2 = 1) := rfl
  rw [hb]
  generalize M.getD y 0 = v at *
  have hx0 : (0 : Int) ≤ x := by omega
  have hx1 : (x : Int) < 16 := by omega
  have hy0 : (0 : Int) ≤ y := by omega
  have hy1 : (y : Int) < 16 := by omega
  clear h hb h16
  go_enter Try.func89, Try.ntmps89
  go_wp2
  go_ret
  rw [bit_eq v0 v1]
  exact ⟨rfl, rfl⟩
/-- the blocks of one row -/
def gap (l : List Bl) (k q : Nat) : List Bl := (l.drop k).take (q - k)
theorem gap_length {l : List Bl} {k q : Nat} (h1 : k ≤ q) (h2 : q ≤ l.length) : (gap l k q).length = q - k := by rw [gap, List.length_take, List.length_drop]; omega
theorem gap_at {l : List Bl} {k q j : Nat} (h1 : k ≤ j) (h2 : j < q) (h3 : q ≤ l.length) : (gap l k q)[j - k]'(by rw [gap_length (by omega) h3]; omega) = l[j]'(by omega) := by
  simp only [gap, List.getElem_take, List.getElem_drop]
  congr 1
  omega
/-- what a loop of the reference holds -/
def Told (w wr : World) (v : Value) (L : List (List Int)) : Prop := (∃ g cc, v = .slice (some ⟨g, 0, none⟩) L.length cc) ∧ wr.ownsRow w.heap.size 60 2 v L.length (pvs L) ∧ Below w.heap.size w wr
theorem Told.drew {w wr : World} {v : Value} {L : List (List Int)} (h : Told w wr v L) : Told w wr.drew v L := ⟨h.1, h.2.1, below_drew h.2.2⟩
theorem Told.drewN {w wr : World} {v : Value} {L : List (List Int)} (h : Told w wr v L) (m : Nat) : Told w (wr.drewN m) v L := ⟨h.1, h.2.1, below_drewN h.2.2 m⟩
theorem rows_of_told {l : List Bl} {P R : List (List Int)} (h : P ++ R = specC l) : Rows_ 2 P := fun f hf => specC_rows l f (by rw [← h]; exact List.mem_append_left _ hf)
/-- the corner and the mask of a block, where they lie -/
theorem rd_corner {w : World} {B b o n : Nat} {l : List Bl} (h : Rd w B 18 (some ⟨b, o, none⟩) n (bcs l)) (hl : Bls l) (hn : l.length = n) {k : Nat} (hk : k < l.length) :
    w.cell? ⟨b, o + k * 18, none⟩ = some (.int .i32 ((l[k]).1.getD 0 0)) ∧ w.cell? ⟨b, o + k * 18 + 1, none⟩ = some (.int .i32 ((l[k]).1.getD 1 0)) ∧ w.rangeAt b (o + k * 18 + 2) ((l[k]).2.map (.int .u16)) := by
  have hr := h.block hl (by omega) hk
  have h1 := (hl.at_ hk).1
  refine ⟨?_, ?_, fun j v hv => ?_⟩
  · exact hr 0 _ (by rw [bvs, List.getElem?_append_left (by rw [List.length_map, h1]; omega), List.getElem?_map, List.getD_eq_getElem?_getD, List.getElem?_eq_getElem (by omega)]; rfl)
  · exact hr 1 _ (by rw [bvs, List.getElem?_append_left (by rw [List.length_map, h1]; omega), List.getElem?_map, List.getD_eq_getElem?_getD, List.getElem?_eq_getElem (by omega)]; rfl)
  · rw [Nat.add_assoc (o + k * 18)]
    exact hr (2 + j) v (by rw [bvs, List.getElem?_append_right (by rw [List.length_map, h1]; omega), List.length_map, h1, Nat.add_sub_cancel_left]; exact hv)
end Go.Proofs.Ytmagaapdijapiaa
