/- PackFrames, the program's walk. -/
import Derived.Test.YtmagaapdijapiaaRows
import Derived.Test.YtmagaapdijapiaaPk
import Derived.Test.YtmagaapdijapiaaCk
import Derived.Test.YtmagaapdijapiaaPm
import Derived.Test.YtmagaapdijapiaaRb
import Derived.Laws.CopyOwn
import Derived.ArgAppend
import Derived.Lib.SlBytesConst
namespace Go.Proofs.Ytmagaapdijapiaa
open Go.ChangeShapes Go.WideShapes Go.ChangeAt Go.RowKit Go.Shelf

attribute [local go_sem] Oper.semAt_some

def bsRow (t : TypeId) (v : Value) : Sem Next := do pure (.value (← Instr.buildSlice t 1 #[(0, v)]))
def apB (args : Array Value) : Sem Value := Builtin.append_ #[24, 24] 24 args
theorem ap_fold (cs : Array Bool) (args : Array Value) : builtin Builtin.append #[24, 24] 24 cs args = (do pure (.value (← apB args))) := rfl
theorem exec_bsRow (ρ : Operand → Value) (dst : Option Tmp) (x : Operand) (t : TypeId) (pos : String) (after : Array Edge) (guard : Option (Nat × Bool)) :
    execOp ρ { dst := dst, op := .buildSlice 24 1 #[(0, x)], type := t, pos := pos, after := after, guard := guard } = bsRow 24 (ρ x) := by simp [execOp, bsRow]
theorem run_bsRow (l : List Int) (hl : l.length = 16) (W : World) : (bsRow 24 (.agg (ivs .u8 l))).run Try.prog W = .ok (.value (.slice (some ⟨W.heap.size, 0, none⟩) 1 1)) (W.alloc (.cells (ivs .u8 l) 87)) := by
  obtain ⟨j0, hy, hy0, hy1, hy2⟩ := info_parts Frame_info
  have := run_buildSlice_row (P := Try.prog) (kd := .u8) (sz := 16) Try.underlying24 hy hy0 hy1 (by omega) (by omega) l hl W
  unfold bsRow
  rw [Sem.run_bind, this]
  simp
theorem exec_ld12 (ρ : Operand → Value) (dst : Option Tmp) (x : Operand) (t : TypeId) (pos : String) (after : Array Edge) (guard : Option (Nat × Bool)) :
    execOp ρ { dst := dst, op := .load 138 x, type := t, pos := pos, after := after, guard := guard } = ldRow 138 (ρ x) := rfl
theorem run_ld12 : ∀ (W : World) (g o : Nat), hasRow W g o 12 = true → (ldRow 138 (.pointer (some ⟨g, o, none⟩))).run Try.prog W = .ok (.value (.agg (rowAt W g o 12))) W := run_ldRow Try.underlying138 rfl (by kernel_rfl)

section
attribute [local go_sem ↓] exec_bsRow exec_ld12
attribute [local go_sem ↓ 100000] ap_fold
attribute [local go_sem] run_bsRow run_ld12
set_option maxRecDepth 100000 in
set_option maxHeartbeats 3200000 in
theorem packFrames_any (b o n c : Nat) (kind count : Int) (hk0 : 1 ≤ kind) (hk1 : kind ≤ 3) (hc0 : 0 ≤ count) (hc1 : count ≤ 256) (l : List Int) (hl : l.length = n) (hn : n ≤ 8192) (hnc : n ≤ c) (hc63 : c ≤ 9223372036854775807) (w : World) (hR : Rd w w.heap.size 1 (some ⟨b, o, none⟩) n (l.map (.int .u8))) :
    Calls Try.prog 49 #[.int .i64 kind, .int .i64 count, .slice (some ⟨b, o, none⟩) n c] w (GivesF1 (packOf kind count l) w) := by
  obtain ⟨i0, hi, hz0, hz1, hz2⟩ := info_parts Byte_info
  obtain ⟨j0, hy, hy0, hy1, hy2⟩ := info_parts Frame_info
  have hs12 : (Try.prog.info? 138).map (·.size) = some 12 := by kernel_rfl
  have Hl := Lib.hid hl
  have HR := Lib.hid hR
  have hcv := Lib.run_convert_bytes_const (P := Try.prog) w 40 5 #[.int .u8 77, .int .u8 80, .int .u8 78] 3 3 Try.underlying40 Try.underlying5
  have hme : (#[.int .u8 77, .int .u8 80, .int .u8 78] : Array Value).size = 3 := rfl
  rw [hme] at hcv
  have hold : ∀ b, some (⟨w.heap.size, 0, none⟩ : Addr) = some b → ∀ j u, ([77, 80, 78].map (Value.int .u8))[j]? = some u → ((w.alloc (.cells #[.int .u8 77, .int .u8 80, .int .u8 78] 5 (3, 3 + 1))).alloc (.cells (ivs .u8 [kind]) 5)).cell? (b.add j) = some u := fun b hb j u hu => by
    cases hb
    rw [show (⟨w.heap.size, 0, none⟩ : Addr).add j = ⟨w.heap.size, j, none⟩ from by unfold Addr.add; split <;> simp_all]
    rw [(((Below.refl (w.heap.size + 1) (w.alloc (.cells #[.int .u8 77, .int .u8 80, .int .u8 78] 5 (3, 3 + 1)))).alloc (by simp) (.cells (ivs .u8 [kind]) 5)).cell (p := ⟨w.heap.size, j, none⟩) (by show w.heap.size < w.heap.size + 1; omega)), World.cell?_alloc_mark]
    rw [← hu]
    simp
  have bA : Below w.heap.size w ((w.alloc (.cells #[.int .u8 77, .int .u8 80, .int .u8 78] 5 (3, 3 + 1))).alloc (.cells (ivs .u8 [kind]) 5)) := ((Below.refl _ _).alloc (Nat.le_refl _) _).alloc (by rw [size_alloc]; omega) _
  have hblk : Blk ((w.alloc (.cells #[.int .u8 77, .int .u8 80, .int .u8 78] 5 (3, 3 + 1))).alloc (.cells (ivs .u8 [kind]) 5)) (w.heap.size + 1) 5 (ivs .u8 [kind]) := Blk.newAt (by simp) rfl
  have Hn := Lib.hid hblk.news
  have Hold := Lib.hid hold
  clear hl hR hold hblk hme
  refine (callsIn_wide (n := 6)).1 ?_
  refine callsIn_of_wp_marks Try.func49 rfl trivial ?_ rfl
  simp only [Try.ntmps49, List.size_toArray, List.length_cons, List.length_nil, Nat.reduceAdd, Nat.reduceSub, Array.replicate_succ, Array.replicate_zero, List.push_toArray, List.append_toArray, List.nil_append, List.cons_append]
  refine wpIn_wide.2 ?_
  go_wp2_with (at_builtin; refine wpList_append_grows _ rfl (.tmp 12) (.tmp 15) 40 rfl 5 i0 _ 1 1 Try.underlying40 hi hz0 hz1 hz2 rfl (by decide) (some ⟨w.heap.size, 0, none⟩) 3 3 ([77, 80, 78].map (.int .u8)) rfl (fun h => by cases h) rfl Hold.out ⟨w.heap.size + 1, 0, none⟩ 1 1 ([kind].map (.int .u8)) (by first | rfl | (simp; done)) rfl Hn.out ints_one (by omega) (by unfold maxLen; omega) (by omega) ?_; intro v1 w1 hown1 hgrow1)
  have B1 : Below w.heap.size w w1 := bA.grown hgrow1 (by simp; omega) (fun j e => by cases e)
  have z1 := B1.size
  have hown1' : w1.ownsRow w.heap.size 5 1 v1 [77, 80, 78, kind].length ([77, 80, 78, kind].map (.int .u8)) := own_base hown1 (by simp; omega)
  clear hgrow1 Hn bA hown1 Hold hcv
  refine (append32_any _ _ [77, 80, 78, kind] w.heap.size _ z1 hown1' (by simp)).mono ?_
  rintro e w2 ⟨v2, rfl, hown2, hgrow2⟩
  have B2 : Below w.heap.size w w2 := B1.grown hgrow2 z1 (fun j e => (hown1'.lt _ e).1)
  have z2 := B2.size
  have hown2' : w2.ownsRow w.heap.size 5 1 v2 ([77, 80, 78, kind] ++ four count).length (([77, 80, 78, kind] ++ four count).map (.int .u8)) := by rw [List.map_append]; exact hown2
  clear hown1' hgrow2 hown2 B1 z1
  go_wp2_with fail
  refine (append32_any _ _ ([77, 80, 78, kind] ++ four count) w.heap.size _ z2 hown2' (by simp [four])).mono ?_
  rintro e w3 ⟨v3, rfl, hown3, hgrow3⟩
  have B3 : Below w.heap.size w w3 := B2.grown hgrow3 z2 (fun j e => (hown2'.lt _ e).1)
  have z3 := B3.size
  have hown3' : w3.ownsRow w.heap.size 5 1 v3 12 ((headB kind count n).map (.int .u8)) := by rw [headB, List.map_append]; exact hown3
  clear hown2' hgrow3 hown3 B2 z2
  obtain ⟨g, cap, cur, rfl, hg0, hg1, hbk, hcap, hmax, hcs, hxs⟩ := own_lt hown3' (by omega)
  have hrg : w3.rangeAt g 0 ((headB kind count n).map (.int .u8)) := by
    have := Rd.of_own hown3'
    obtain ⟨b', o', hA, hB, hc⟩ := this.at_ (by omega)
    cases hA
    exact fun j v hv => hc j v hv
  have hHl : (headB kind count n).length = 12 := headB_length _ _ _
  have Hrg := Lib.hid hrg
  have HHl := Lib.hid hHl
  have Hmax := Lib.hid hmax
  have Hg1 := Lib.hid hg1
  have harr := fun (a : Option Addr) (c : Nat) (x : World) => run_arrayAt (P := Try.prog) (w := x) 138 5 12 a 12 c Try.underlying138 (by omega)
  clear hcs hxs hbk hown3' hg1 hmax hrg
  go_wp2_with (refine wpList_load_ivs rfl _ _ rfl g 0 (by rfl) .u8 (headB kind count n) _ Hrg.out Try.underlying138 rfl (by rw [HHl.out]; exact hs12) ?_)
  refine (makeFrame_any 0 (headB kind count n) HHl.out _).mono ?_
  rintro e w4 ⟨rfl, hb4⟩
  have B4 : Below w.heap.size w w4 := B3.trans (hb4.mono z3)
  have z4 := B4.size
  have hml := mk_length (n := (0 : Int)) HHl.out
  have Hml := Lib.hid hml
  clear B3 z3 hb4 Hrg Hg1 Hmax harr hml hcap
  go_wp2_with (first
    | refine wpList_buildSlice_row rfl 24 87 (.tmp 31) rfl (kd := .u8) (sz := 16) Try.underlying24 hy hy0 hy1 (by omega) (by omega) (mk 0 (headB kind count n)) rfl Hml.out ?_
    | (go_at_call 67; refine (callsIn_wide.1 (chunk_in Fence.wide 6 trivial rfl _ _ _ _)).mono ?_; rintro e w5 ⟨rfl, rfl⟩))
  have b0 : Blk (w4.alloc (.cells (ivs .u8 (mk 0 (headB kind count n))) 87)) w4.heap.size 87 (ivs .u8 (mk 0 (headB kind count n))) := Blk.newAt rfl rfl
  have o0 := (b0.own (n := 1) (size := 16) (lo := w.heap.size) (hi := w4.heap.size + 1) (by rw [Hml.out]) z4 (by omega) (by unfold maxLen; omega)).row
  have o1 := own_below o0 (((Below.refl (w4.heap.size + 1) (w4.alloc (.cells (ivs .u8 (mk 0 (headB kind count n))) 87))).alloc (by simp) (.cells #[.slice (some ⟨w4.heap.size, 0, none⟩) 1 1] 24)).alloc (by simp) (.cells #[.slice (some ⟨b, o, none⟩) n c] 40) |>.alloc (by simp <;> omega) (.cells #[.int .i64 12] 3)) (by simp)
  have v0 := ((Boxed.new (w4.alloc (.cells (ivs .u8 (mk 0 (headB kind count n))) 87)) 24 (.slice (some ⟨w4.heap.size, 0, none⟩) 1 1)).alloc (.cells #[.slice (some ⟨b, o, none⟩) n c] 40)).alloc (.cells #[.int .i64 12] 3)
  have sB := ((Boxed.new ((w4.alloc (.cells (ivs .u8 (mk 0 (headB kind count n))) 87)).alloc (.cells #[.slice (some ⟨w4.heap.size, 0, none⟩) 1 1] 24)) 40 (.slice (some ⟨b, o, none⟩) n c)).alloc (.cells #[.int .i64 12] 3))
  have nB := (Boxed.new (((w4.alloc (.cells (ivs .u8 (mk 0 (headB kind count n))) 87)).alloc (.cells #[.slice (some ⟨w4.heap.size, 0, none⟩) 1 1] 24)).alloc (.cells #[.slice (some ⟨b, o, none⟩) n c] 40)) 3 (.int .i64 12))
  have BW : Below w.heap.size w ((((w4.alloc (.cells (ivs .u8 (mk 0 (headB kind count n))) 87)).alloc (.cells #[.slice (some ⟨w4.heap.size, 0, none⟩) 1 1] 24)).alloc (.cells #[.slice (some ⟨b, o, none⟩) n c] 40)).alloc (.cells #[.int .i64 12] 3)) :=
    (((B4.alloc z4 _).alloc (by simp <;> omega) _).alloc (by simp <;> omega) _).alloc (by simp <;> omega) _
  have zW : ((((w4.alloc (.cells (ivs .u8 (mk 0 (headB kind count n))) 87)).alloc (.cells #[.slice (some ⟨w4.heap.size, 0, none⟩) 1 1] 24)).alloc (.cells #[.slice (some ⟨b, o, none⟩) n c] 40)).alloc (.cells #[.int .i64 12] 3)).heap.size = w4.heap.size + 4 := by simp
  simp only [size_alloc] at v0 sB nB
  have s0 := sB.cell
  have n0 := nB.cell
  generalize ((((w4.alloc (.cells (ivs .u8 (mk 0 (headB kind count n))) 87)).alloc (.cells #[.slice (some ⟨w4.heap.size, 0, none⟩) 1 1] 24)).alloc (.cells #[.slice (some ⟨b, o, none⟩) n c] 40)).alloc (.cells #[.int .i64 12] 3)) = Wr at *
  clear b0 o0 B4 Hml
  refine (wpIn_wide (n := 6)).1 ?_
  refine wpIn_rangeFunc_ownG rfl (by omega) (gf := 113) (lb := #[.pointer (some ⟨w4.heap.size + 1 + 1, 0, none⟩), .pointer (some ⟨w4.heap.size + 1 + 1 + 1, 0, none⟩)]) rfl trivial (enters_of Try.func113 (by kernel_rfl) rfl)
    (chunk_stops Fence.wide _ trivial rfl (by omega) (w4.heap.size + 1 + 1) (w4.heap.size + 1 + 1 + 1) b o n c (by omega) hnc hc63 Wr (by omega) (by omega) s0 n0) KpC.trans ?kb (Below.refl _ _) (fun _ => rfl)
    (fun pre W => ((∃ v, Boxed W (w4.heap.size + 1) 24 v ∧ W.ownsRow w.heap.size 87 16 v (outTo (headB kind count n) l pre).length ((outTo (headB kind count n) l pre).flatten.map (.int .u8)) ∧ True) ∧ Boxed W (w4.heap.size + 1 + 1) 40 (.slice (some ⟨b, o, none⟩) n c) ∧ Boxed W (w4.heap.size + 1 + 1 + 1) 3 (.int .i64 12)) ∧ Below w.heap.size w W)
    (fun _ _ _ => False)
    (OwnFrom.and (Go.Own.from (fun s A B row hs hg hr => ⟨holdsRow_own w.heap.size (w4.heap.size + 1) 24 87 16 (fun pre => (outTo (headB kind count n) l pre).length) (fun pre => (outTo (headB kind count n) l pre).flatten.map (.int .u8)) (fun _ _ => True) s A B row hs.1 hg hr, boxed_own (w4.heap.size + 1 + 1) 40 (fun _ => .slice (some ⟨b, o, none⟩) n c) s A B row hs.2.1 hg hr, boxed_own (w4.heap.size + 1 + 1 + 1) 3 (fun _ => .int .i64 12) s A B row hs.2.2 hg hr⟩) _) (ownFrom_below (Nat.le_refl _) (by omega)))
    (fun _ _ _ _ _ hs _ _ => hs)
    ⟨⟨⟨_, v0, by simpa [outTo_nil] using o1, trivial⟩, sB, nB⟩, BW⟩
    ?a1 ?assign ?body ?done ?stop
  case assign =>
    intro l x W K hK
    gi_wp2
    exact hK
  case kb =>
    intro W l' o1' o2' hl' h _ _
    have hg := grownBy_putObj' W l' o2'
    have hlt := (Array.getElem?_eq_some_iff.1 h).1
    exact ⟨hg.block _ (by omega) (fun e => by cases e; omega), hg.block _ (by omega) (fun e => by cases e; omega)⟩
  case body =>
    rintro lp pre x W ⟨⟨⟨v, hv, hrow, -⟩, xs, xn⟩, hB⟩ hlt
    have hc := hv.cell
    have hf := hv.frozen
    have hz := hB.size
    have r1 : Blk (W.alloc (.cells #[.int .u8 0, .int .u8 0, .int .u8 0, .int .u8 0, .int .u8 0, .int .u8 0, .int .u8 0, .int .u8 0, .int .u8 0, .int .u8 0, .int .u8 0, .int .u8 0] 138)) W.heap.size 138 (ivs .u8 (List.replicate 12 0)) := Blk.newAt rfl rfl
    have hcl : (chunkOf l x).length = chunkLen n x := by rw [chunkOf_length, Hl.out]
    have hcl2 : chunkLen n x ≤ 12 := by unfold chunkLen; omega
    have hsrc : ∀ j v, ((chunkOf l x).map (Value.int .u8))[j]? = some v → (W.alloc (.cells #[.int .u8 0, .int .u8 0, .int .u8 0, .int .u8 0, .int .u8 0, .int .u8 0, .int .u8 0, .int .u8 0, .int .u8 0, .int .u8 0, .int .u8 0, .int .u8 0] 138)).cell? ((⟨b, o + 12 * chunkAt n x, none⟩ : Addr).add j) = some v := fun j v hj => by
      have hn0 : 0 < n := by omega
      obtain ⟨b', o', hA, hbB, hcc⟩ := ((HR.out.below hB (Nat.le_refl _)).alloc hz (.cells #[.int .u8 0, .int .u8 0, .int .u8 0, .int .u8 0, .int .u8 0, .int .u8 0, .int .u8 0, .int .u8 0, .int .u8 0, .int .u8 0, .int .u8 0, .int .u8 0] 138)).at_ hn0
      cases hA
      rw [show (⟨b, o + 12 * chunkAt n x, none⟩ : Addr).add j = ⟨b, o + (12 * chunkAt n x + j), none⟩ from by unfold Addr.add; split <;> simp_all [Nat.add_assoc]]
      refine hcc _ _ ?_
      rw [List.getElem?_map] at hj ⊢
      rw [chunkOf, Hl.out, List.getElem?_take] at hj
      split at hj
      · rw [List.getElem?_drop] at hj
        exact hj
      · cases hj
    have Hsrc := Lib.hid hsrc
    have Hcl := Lib.hid hcl
    have hsz5 : (Try.prog.info? 5).map (·.size) = some 1 := by kernel_rfl
    clear hsrc hcl
    gi_wp2_with (refine wpListIn_step fun K hK => ?_; refine stepIn_of_step (E := False) rfl (fun c h => by cases h) (step_copy_splice rfl (.tmp 37) (.tmp 38) 40 40 rfl 5 Try.underlying40 hsz5 (some ⟨W.heap.size, 0, none⟩) (some ⟨b, o + 12 * chunkAt n x, none⟩) 12 12 (chunkLen n x) (chunkLen n x) rfl rfl W.heap.size 0 ((List.replicate 12 0).map (Value.int .u8)) 138 r1 ((chunkOf l x).map (Value.int .u8)) (by rw [List.length_map, Hcl.out]; exact (Nat.min_eq_left hcl2).symm) (fun _ => ⟨rfl, _, rfl, Hsrc.out⟩) (by simp [Hcl.out]; omega) ints_one W.heap.size W ((Below.refl _ _).alloc (Nat.le_refl _) _) (Nat.le_refl _) ?_); intro w6 hg6 hb6; refine hK _ _ ?_; clear hK)
    have hpl : (padC (chunkOf l x)).length = 12 := padC_length (by rw [Hcl.out]; exact hcl2)
    have k6 : Blk w6 W.heap.size 138 (ivs .u8 (padC (chunkOf l x))) := by
      have := hg6.out
      unfold Blk ivs
      rw [this, splice, List.take_zero, List.nil_append, List.length_map, padC, List.map_append, ← List.map_drop, Nat.zero_add, List.drop_replicate]
    have q1 := k6.drew.rowAt_eq hpl
    have q2 := k6.drew.hasRow_eq hpl
    obtain ⟨gv, cv, rfl⟩ := ownsRow_succ (by rw [outTo_length] at hrow; exact hrow)
    have hv6 : Boxed w6 (w4.heap.size + 1) 24 (.slice (some ⟨gv, 0, none⟩) (pre.length + 1) cv) := (hb6.block _ hv.lt).trans hv
    have own6 := own_below hrow hb6 (Nat.le_refl _)
    have c6 := hv6.cell
    have f6 := hv6.frozen
    have z6 := hb6.size
    have hml := mk_length (n := (pre.length : Int) + 1) hpl
    have Hpl := Lib.hid hpl
    have Own6 := Lib.hid own6
    have hlen : pre.length ≤ 700 := by omega
    clear hc hf hpl k6 r1 hg6 Hsrc own6
    gi_wp2
    gi_region_with (refine ⟨trivial, ?_⟩; gi_at_call 95; refine (CallsIn.inRound lp (callsIn_wide.2 (makeFrame_any _ (padC (chunkOf l x)) Hpl.out _))).mono ?_; rintro e w7 ⟨rfl, hb7⟩; have hv7 : Boxed w7 (w4.heap.size + 1) 24 (.slice (some ⟨gv, 0, none⟩) (pre.length + 1) cv) := (hb7.block _ hv6.lt).trans hv6; have own7 := own_below (w := w6.drew) Own6.out hb7 (Nat.le_refl _); have z7 : w6.heap.size ≤ w7.heap.size := hb7.size; have bl7 : Blk (w7.alloc (.cells (ivs .u8 (mk ((pre.length : Int) + 1) (padC (chunkOf l x)))) 87)) w7.heap.size 87 (ivs .u8 (mk ((pre.length : Int) + 1) (padC (chunkOf l x)))) := Blk.newAt rfl rfl; have n7 := bl7.news; obtain ⟨v8, w8, hrun8, hown8, hgrow8, -⟩ := run_append_own (P := Try.prog) (w7.alloc (.cells (ivs .u8 (mk ((pre.length : Int) + 1) (padC (chunkOf l x)))) 87)) w.heap.size 24 24 87 j0 _ 16 16 Try.underlying24 hy hy0 hy1 hy2 rfl (by decide) _ _ _ (own7.alloc _) ⟨w7.heap.size, 0, none⟩ 1 1 ((mk ((pre.length : Int) + 1) (padC (chunkOf l x))).map (.int .u8)) (by rw [List.length_map, hml]) n7 ints_one (by rw [outTo_length]; unfold maxLen; omega) (by rw [outTo_length]; omega) (by rw [size_alloc]; omega); have hap : (apB #[.slice (some ⟨gv, 0, none⟩) (pre.length + 1) cv, .slice (some ⟨w7.heap.size, 0, none⟩) 1 1]).run Try.prog (w7.alloc (.cells (ivs .u8 (mk ((pre.length : Int) + 1) (padC (chunkOf l x)))) 87)) = .ok v8 w8 := hrun8; obtain ⟨g8, cp8, rfl⟩ := ownsRow_succ hown8; obtain ⟨hv81, hv82, hr8, hk8, hb8⟩ := hv7.appended (by decide) own7 (by omega) (by omega) hown8 hgrow8; have c7 := hv7.cell; have c7a := (hv7.alloc (.cells (ivs .u8 (mk ((pre.length : Int) + 1) (padC (chunkOf l x)))) 87)).cell; have c8 := hv81.cell; have f8 := hv81.frozen; clear n7 bl7 hrun8)
    all_goals
      gi_wp2
      have hB7 : Below W.heap.size W w7 := (below_drew hb6).trans (hb7.mono z6)
      have ko : KeepsOthers W w7 := ⟨hB7.size, fun k o h _ => (hB7.block k (Array.getElem?_eq_some_iff.1 h).1).trans h⟩
      have xs7 : Boxed w7 _ _ _ := (hB7.block _ xs.lt).trans xs
      have xn7 : Boxed w7 _ _ _ := (hB7.block _ xn.lt).trans xn
      have xs8 := ((xs7.alloc (.cells (ivs .u8 (mk ((pre.length : Int) + 1) (padC (chunkOf l x)))) 87)).kept hgrow8 (xs7.not_row (by decide) own7)).other (B' := w4.heap.size + 1) (by omega) (.slice (some ⟨g8, 0, none⟩) ((outTo (headB kind count n) l pre).length + 1) cp8)
      have xn8 := ((xn7.alloc (.cells (ivs .u8 (mk ((pre.length : Int) + 1) (padC (chunkOf l x)))) 87)).kept hgrow8 (xn7.not_row (by decide) own7)).other (B' := w4.heap.size + 1) (by omega) (.slice (some ⟨g8, 0, none⟩) ((outTo (headB kind count n) l pre).length + 1) cp8)
      refine ⟨(ko.trans hk8).from _, ⟨(show _ = _ from xs8).trans (show _ = _ from xs).symm, (show _ = _ from xn8).trans (show _ = _ from xn).symm⟩, ⟨⟨_, hv82, ?_, trivial⟩, xs8, xn8⟩, (hB.trans (hB7.mono hz)).trans hb8⟩
      rw [outTo_snoc, List.length_append, List.flatten_append, List.flatten_cons, List.flatten_nil, List.append_nil, List.map_append]
      exact hr8
  case done =>
    rintro D ys W hD rfl ⟨⟨⟨v, hv, hrow, -⟩, -⟩, hB⟩ hK
    have hc := hv.cell
    have hall := outTo_all kind count l
    rw [Hl.out] at hall
    rw [hall] at hrow
    go_wp2
    refine ⟨by simp, .inl ⟨_, _, rfl, run_takeDeferred hK, ?_⟩⟩
    obtain ⟨A', c', rfl, hO⟩ := Own.of_row (ownsRow_putObj hrow _ hK rfl)
    exact ⟨_, results_tmp rfl _ _ _, A', c', rfl, hO, hB.trans (belowK_b (w := w) (Nat.le_refl _) W D _ _ (by omega) hK rfl rfl)⟩
  case stop =>
    rintro D c pre W _ _ h _
    exact h.elim
end
end Go.Proofs.Ytmagaapdijapiaa
