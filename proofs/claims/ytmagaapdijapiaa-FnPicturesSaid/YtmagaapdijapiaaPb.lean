/- Blocks built, and laid as a slice of one. -/
import Derived.Test.YtmagaapdijapiaaRows
import Derived.Test.YtmagaapdijapiaaAo
namespace Go.Proofs.Ytmagaapdijapiaa
open Go.ChangeShapes Go.WideShapes Go.ChangeAt Go.RowKit
theorem run_buildBlock (X Y : Int) (M : List Int) (hM : M.length = 16) (W : World) : (Instr.build 78 #[(0, .agg #[.int .i32 X, .int .i32 Y]), (1, .agg (ivs .u16 M))]).run Try.prog W = .ok (.agg (bav ([X, Y], M))) W := by
  match M, hM with
  | [a, b, c, d, e, f, g, h, i, j, k, l, m, n, o, p], _ => exact run_build W _ _ _ (by kernel_rfl)
theorem wpList_build_block {w : World} {ops : Array Oper} {rest : List Oper} {o : Oper} {a : Act} {Q : Exit → Act → World → Prop} (hgd : o.guard = none) (x y : Operand) (ho : o.op = .build 78 #[(0, x), (1, y)])
    (X Y : Int) (M : List Int) (hM : M.length = 16) (hx : a.eval x = .agg #[.int .i32 X, .int .i32 Y]) (hy : a.eval y = .agg (ivs .u16 M))
    (h : wpList Try.prog ops Q rest (a.put o.dst (.agg (bav ([X, Y], M)))) w) : wpList Try.prog ops Q (o :: rest) a w := by
  refine wpList_plain hgd fun K hK => ?_
  have hr := run_buildBlock X Y M hM w
  unfold Oper.wp execOp
  simp only [ho, List.map_toArray, List.map_cons, List.map_nil, hx, hy, Sem.run_bind, hr, Result.andThen_ok]
  exact hK _ _ h
theorem run_buildSlice_block {P : Program} {t e : TypeId} {i : TypeInfo} {z : Value} (ht : P.underlying t = some (.slice e)) (hi : P.info? e = some i) (hz : i.zero = some z) (hsize : i.size = 18)
    (b : Bl) (hb : b.1.length = 2 ∧ b.2.length = 16) (w : World) :
    (Instr.buildSlice t 1 #[(0, .agg (bav b))]).run P w = .ok (.slice (some ⟨w.heap.size, 0, none⟩) 1 1) (w.alloc (.cells (bav b) e)) := by
  refine run_buildSlice w t e 1 _ _ i z ht hi hz (by rw [hsize]; omega) (by rw [hsize]; omega) ?_
  have hf := Great.fill_whole (s := 18) (by omega) [Value.agg (bav b)] ((Array.range (1 * 18)).map (z.cells[· % z.cells.size]!)) (fun v hv => by
    rw [List.mem_singleton] at hv
    subst hv
    exact bav_size hb) (by simp)
  rw [hsize]
  have e1 : ([Value.agg (bav b)].flatMap fun v => v.cells.toList).toArray = bav b := by
    rw [List.flatMap_cons, List.flatMap_nil, List.append_nil]
    simp [Value.cells]
  rw [e1] at hf
  exact hf
theorem wpList_buildSlice_block {P : Program} {w : World} {ops : Array Oper} {rest : List Oper} {o : Oper} {a : Act} {Q : Exit → Act → World → Prop} (hgd : o.guard = none) (t e : TypeId) (x : Operand) (ho : o.op = .buildSlice t 1 #[(0, x)])
    {i : TypeInfo} {z : Value} (ht : P.underlying t = some (.slice e)) (hi : P.info? e = some i) (hz : i.zero = some z) (hsize : i.size = 18)
    (b : Bl) (hb : b.1.length = 2 ∧ b.2.length = 16) (hx : a.eval x = .agg (bav b))
    (h : wpList P ops Q rest (a.put o.dst (.slice (some ⟨w.heap.size, 0, none⟩) 1 1)) (w.alloc (.cells (bav b) e))) : wpList P ops Q (o :: rest) a w := by
  refine wpList_plain hgd fun K hK => ?_
  have hr := run_buildSlice_block (P := P) ht hi hz hsize b hb w
  unfold Oper.wp execOp
  simp only [ho, List.map_toArray, List.map_cons, List.map_nil, hx, Sem.run_bind, hr, Result.andThen_ok]
  exact hK _ _ h
theorem block_news (W : World) (b : Bl) : ∀ j u, (bcs [b])[j]? = some u → (W.alloc (.cells (bav b) 78)).cell? ((⟨W.heap.size, 0, none⟩ : Addr).add j) = some u := fun j u hu => by
  rw [addr_add0, (Blk.newAt (w := W) (t := 78) (cs := bav b) rfl rfl).cell, bav, List.getElem?_toArray]
  rw [bcs, List.map_cons, List.map_nil, List.flatten_cons, List.flatten_nil, List.append_nil] at hu
  exact hu
theorem bcs_append (a b : List Bl) : bcs (a ++ b) = bcs a ++ bcs b := by rw [bcs, bcs, bcs, List.map_append, List.flatten_append]
theorem bls_append {a b : List Bl} (ha : Bls a) (hb : Bls b) : Bls (a ++ b) := fun c hc => by
  rcases List.mem_append.1 hc with h | h
  · exact ha c h
  · exact hb c h
theorem bls_one {b : Bl} (hb : b.1.length = 2 ∧ b.2.length = 16) : Bls [b] := fun c hc => by rw [List.mem_singleton] at hc; subst hc; exact hb
theorem bcs_one (l : List Bl) : ∀ v ∈ bcs l, v.oneCell' = true := fun v hv => by
  obtain ⟨f, hf, hv⟩ := List.mem_flatten.1 hv
  obtain ⟨b, _, rfl⟩ := List.mem_map.1 hf
  exact bvs_one b v hv
theorem emptyM_iff {M : List Int} : emptyM M = true ↔ M = zr16 := by rw [emptyM, beq_iff_eq]
theorem own_some {w : World} {base : Nat} {e : TypeId} {size n : Nat} {v : Value} {xs : List Value} (h : w.ownsRow base e size v n xs) (hn : 0 < n) : ∃ g c, v = .slice (some ⟨g, 0, none⟩) n c := by
  rcases h.2 with ⟨_, rfl⟩ | ⟨g, cap, cur, rfl, _⟩
  · omega
  · exact ⟨g, cap, rfl⟩
/-! ### what a picture becomes -/
open Classical in
/-- the picture with some masks -/
noncomputable def picOf (F : List Int → List Int) : List Bl := if h : ∃ P, Pic P ∧ ∀ key, maskAt P key = F key then h.choose else []
theorem picOf_eq {F : List Int → List Int} {P : List Bl} (hP : Pic P) (h : ∀ key, maskAt P key = F key) : picOf F = P := by
  have hx : ∃ P, Pic P ∧ ∀ key, maskAt P key = F key := ⟨P, hP, h⟩
  rw [picOf, dif_pos hx]
  have hc := hx.choose_spec
  exact pic_ext hc.1.rising hP.rising hc.1.noVoid hP.noVoid fun key => (hc.2 key).trans (h key).symm
/-- what is told of it -/
def picR (P : List Bl) : List Bl := if P.length ≤ 64 then P else []
def picK (P : List Bl) : Int := if P.length ≤ 64 then 0 else 3
theorem picR_length (P : List Bl) : (picR P).length ≤ 64 := by
  rw [picR]
  split
  · assumption
  · exact Nat.zero_le _
def GivesToldB (L : List Bl) (k : Int) (w : World) (e : Ending) (w' : World) : Prop :=
  ∃ A c, e = .returned (.tuple #[.slice A L.length c, .int .i64 k]) ∧ Own w' w.heap.size w'.heap.size 78 18 A L.length c (bcs L) ∧ Below w.heap.size w w'
theorem GivesToldB.nil {w w' : World} {k : Int} (hb : Below w.heap.size w w') : GivesToldB [] k w (.returned (.tuple #[.slice none 0 0, .int .i64 k])) w' := ⟨none, 0, rfl, ⟨rfl, .inl ⟨rfl, rfl, rfl⟩⟩, hb⟩
theorem GivesToldB.lit {w w1 : World} {k : Int} (hb : Below w.heap.size w w1) : GivesToldB [] k w (.returned (.tuple #[.slice (some ⟨w1.heap.size, 0, none⟩) 0 0, .int .i64 k])) (w1.alloc (.cells #[] 78)) := by
  have h0 := World.ownsRow_lit (e := 78) (base := w.heap.size) (size := 18) w1 #[] 0 hb.size (by unfold maxLen; omega) rfl
  obtain ⟨A, c, he, ho⟩ := Own.of_row h0
  cases he
  exact ⟨_, _, rfl, ho, hb.alloc hb.size _⟩
/-- a table whose blocks with cells are sorted is a picture -/
theorem pic_sorted {l m : List Bl} (hl : Tab l) (hp : m.Perm (solid l)) (hs : m.Pairwise fun x y => ¬ ltC y x) : Pic m ∧ ∀ key, maskAt m key = maskAt l key := by
  have ha := solid_apart hl.apart
  have hmem : ∀ b ∈ m, b ∈ l := fun b hb => (List.mem_filter.1 (hp.mem_iff.1 hb)).1
  refine ⟨⟨rising_of_sorted (fun b hb => hl.bls b (hmem b hb)) (apart_perm ha hp) hs, fun b hb => solid_noVoid l b (hp.mem_iff.1 hb), fun b hb => hl.bls b (hmem b hb), fun b hb => hl.m16 b (hmem b hb)⟩, fun key => ?_⟩
  rw [maskAt_perm ha hp, maskAt_solid hl.apart]
end Go.Proofs.Ytmagaapdijapiaa
