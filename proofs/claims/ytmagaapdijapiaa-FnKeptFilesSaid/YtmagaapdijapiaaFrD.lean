/- The frame of a payload with its index: the reference's and the program's walk come to the same sixteen bytes. -/
import Derived.Test.YtmagaapdijapiaaRows
import Derived.Test.YtmagaapdijapiaaFrC
import Derived.StillTailTactics
import Derived.Laws.CopyOwn
import Derived.Deep.RegionLaw
import Derived.Deep.RegionHeld3
namespace Go.Proofs.Ytmagaapdijapiaa
open Go.ChangeShapes Go.WideShapes Go.ChangeAt Go.RowKit

def chk (n : Int) (p : List Int) : Int := fnv 2166136261 (four (n % 4294967296) ++ p)
def mk (n : Int) (p : List Int) : List Int := p ++ four (chk n p)
theorem mk_length {n : Int} {p : List Int} (hp : p.length = 12) : (mk n p).length = 16 := by simp [mk, four, hp]

set_option maxRecDepth 20000 in
set_option maxHeartbeats 400000 in
theorem l09Make_any (n : Int) (p : List Int) (hp : p.length = 12) (w : World) :
    Calls Try.prog 90 #[.int .i64 n, .agg (ivs .u8 p)] w fun e w' => e = .returned (.agg (ivs .u8 (mk n p))) ∧ Below w.heap.size w w' := by
  obtain ⟨M, hM⟩ : ∃ M, M = mk n p := ⟨_, rfl⟩
  have hML : M.length = 16 := hM ▸ mk_length hp
  have hMp : ∀ k (h : k < 12), M[k]? = some (p[k]'(by omega)) := fun k h => by rw [hM, mk, List.getElem?_append_left (by omega), List.getElem?_eq_getElem]
  have hM4 : ∀ k (h : k < 4), M[12 + k]? = some ((four (chk n p))[k]'(by simp [four]; omega)) := fun k h => by rw [hM, mk, List.getElem?_append_right (by omega), List.getElem?_eq_getElem (by simp [four]; omega)]; simp [hp]
  have HM := Lib.hid hM
  have HMp := Lib.hid hMp
  have HM4 := Lib.hid hM4
  clear hM hMp hM4
  go_enter Try.func90, Try.ntmps90
  have r1 : Blk (((w.alloc (.cells (ivs .u8 p) 138)).alloc (.cells (ivs .u8 (List.replicate 16 0)) 87)).alloc (.cells (ivs .u8 (List.replicate 16 0)) 87)) (w.heap.size + 1 + 1) 87 (ivs .u8 (List.replicate 16 0)) := Blk.newAt (by simp) rfl
  go_wp2_with (refine wpList_store_row rfl _ _ _ rfl (w.heap.size + 1 + 1) (ivs .u8 (List.replicate 16 0)) rfl rfl 87 _ r1 (by rw [ivs_size]; exact size87) (by simp [ivs_size]) ivs_one ?_)
  go_loopw [6] (fun i wr => ∃ k : Nat, k ≤ 12 ∧ i = .int .i64 k ∧ Blk wr w.heap.size 138 (ivs .u8 p) ∧ Blk wr (w.heap.size + 1) 87 (ivs .u8 (List.replicate 16 0)) ∧ Blk wr (w.heap.size + 1 + 1) 87 (ivs .u8 (M.take k ++ List.replicate (16 - k) 0)) ∧ Below w.heap.size w wr ∧ w.heap.size + 1 + 1 < wr.heap.size) (fun i _ => 12 - (intOf i).toNat)
  case atStart =>
    exact ⟨0, by omega, rfl, (((Blk.newAt rfl rfl).alloc _).alloc _).rowFar (by omega) _, ((Blk.newAt (by simp) rfl).alloc _).rowFar (by omega) _, r1.row _, below_setRow ((((Below.refl _ _).alloc (Nat.le_refl _) _).alloc (by simp) _).alloc (by simp; omega) _) (by omega) _, by simp⟩
  case round =>
    clear r1
    obtain ⟨k, hk, rfl, h1, h2, h3, hb, hz⟩ := hrel
    by_cases hlt : k < 12
    · have c1 := h1.cellI (i := k) (by omega)
      obtain ⟨x3, c3⟩ := h3.some_ (i := k) (by simp; omega)
      have f3 := h3.frozen k
      go_wp2
      exact ⟨⟨k + 1, by omega, by go_num, h1.far (by simp; omega) _, h2.far (by simp) _, by rw [← fill_at hML (by omega) 0 (HMp.out k hlt)]; exact h3.setI _ _, hb.setCell (by simp; omega) _, by rw [size_setCell]; exact hz⟩, by simp [intOf]; omega⟩
    · have : k = 12 := by omega
      subst this
      go_wp2_with (refine wpList_load_row rfl _ _ rfl w.heap.size rfl 138 (ivs .u8 p) (0, 0) _ h1 Try.underlying138 rfl (by rw [ivs_size, hp]; exact size138) ?_)
      refine (l09Check_any n p hp _).mono ?_
      rintro e w1 ⟨rfl, hb1⟩
      have k2 := h2.below hb1 (by omega)
      have k3 := h3.below hb1 (by omega)
      have kb := hb.trans (hb1.mono (by omega))
      have kz := hb1.size
      clear h1 h2 h3 hb hb1
      go_wp2_with fail
      refine (l09Four_any _ _).mono ?_
      rintro e w2 ⟨rfl, rfl⟩
      have k4 : Blk (w1.alloc (.cells (ivs .u8 (four (chk n p))) 5)) w1.heap.size 5 (ivs .u8 (four (chk n p))) := Blk.newAt rfl rfl
      go_wp2_with fail
      go_loopw [8] (fun i wq => ∃ k : Nat, k ≤ 4 ∧ i = .int .i64 k ∧ Blk wq w1.heap.size 5 (ivs .u8 (four (chk n p))) ∧ Blk wq (w.heap.size + 1) 87 (ivs .u8 (List.replicate 16 0)) ∧ Blk wq (w.heap.size + 1 + 1) 87 (ivs .u8 (M.take (12 + k) ++ List.replicate (16 - (12 + k)) 0)) ∧ Below w.heap.size w wq) (fun i _ => 4 - (intOf i).toNat)
      case atStart => exact ⟨0, by omega, rfl, k4, k2.alloc _, k3.alloc _, kb.alloc (by omega) _⟩
      case round =>
        clear k2 k3 k4 kb
        obtain ⟨k, hk, rfl, h1, h2, h3, hb⟩ := hrel
        by_cases hlt : k < 4
        · have c1 := h1.cellI (i := k) (by simp [four]; omega)
          obtain ⟨x3, c3⟩ := h3.some_ (i := 12 + k) (by simp; omega)
          have f3 := h3.frozen (12 + k)
          go_wp2
          exact ⟨⟨k + 1, by omega, by go_num, h1.far (by simp; omega) _, h2.far (by simp) _, by rw [← Nat.add_assoc, ← fill_at hML (by omega) 0 (HM4.out k hlt)]; exact h3.setI _ _, hb.setCell (by simp; omega) _⟩, by simp [intOf]; omega⟩
        · have : k = 4 := by omega
          subst this
          rw [fill_end hML] at h3
          go_wp2_with (first
            | refine wpList_load_row rfl _ _ rfl (w.heap.size + 1 + 1) rfl 87 (ivs .u8 M) (0, 0) _ h3 Try.underlying87 rfl (by rw [ivs_size, hML]; exact size87) ?_
            | refine wpList_store_row rfl _ _ _ rfl (w.heap.size + 1) (ivs .u8 M) rfl rfl 87 _ h2 (by rw [ivs_size, hML]; exact size87) (by simp [ivs_size, hML]) ivs_one ?_)
          exact bodyPost_ret (results_cell_row rfl _ _ (w.heap.size + 1) 87 (ivs .u8 M) (0, 0) _ rfl (h2.row _) Try.underlying87 rfl (by rw [ivs_size, hML]; exact size87)) rfl ⟨by rw [HM.out], below_setRow hb (by omega) _⟩

theorem put4_mk {n : Int} {p : List Int} (hp : p.length = 12) : put4 (p ++ List.replicate 4 0) 12 (fnv 2166136261 (four (n % 4294967296) ++ p)) = mk n p := by
  unfold put4 mk chk four
  simp only [List.set_append_right, hp, Nat.le_refl, Nat.sub_self, List.replicate, List.set_cons_zero, show (12 : Nat) ≤ 12 + 1 by omega, show (12 : Nat) ≤ 12 + 2 by omega, show (12 : Nat) ≤ 12 + 3 by omega, show 12 + 1 - 12 = 1 by omega, show 12 + 2 - 12 = 2 by omega, show 12 + 3 - 12 = 3 by omega, List.set_cons_succ]

set_option maxRecDepth 20000 in
set_option maxHeartbeats 400000 in
theorem makeFrame_any (n : Int) (p : List Int) (hp : p.length = 12) (w : World) :
    Calls Try.prog 95 #[.int .i64 n, .agg (ivs .u8 p)] w fun e w' => e = .returned (.agg (ivs .u8 (mk n p))) ∧ Below w.heap.size w w' := by
  have hsz5 : (Try.prog.info? 5).map (·.size) = some 1 := by kernel_rfl
  go_enter Try.func95, Try.ntmps95
  have q1 : Blk (((w.alloc (.cells (ivs .u8 p) 138)).alloc (.cells #[.int .u8 0, .int .u8 0, .int .u8 0, .int .u8 0, .int .u8 0, .int .u8 0, .int .u8 0, .int .u8 0, .int .u8 0, .int .u8 0, .int .u8 0, .int .u8 0, .int .u8 0, .int .u8 0, .int .u8 0, .int .u8 0] 87)).alloc (.cells #[.int .u8 0, .int .u8 0, .int .u8 0, .int .u8 0, .int .u8 0, .int .u8 0, .int .u8 0, .int .u8 0, .int .u8 0, .int .u8 0, .int .u8 0, .int .u8 0, .int .u8 0, .int .u8 0, .int .u8 0, .int .u8 0] 87)) (w.heap.size + 1 + 1) 87 (ivs .u8 (List.replicate 16 0)) := Blk.newAt (by simp) rfl
  go_wp2_with (refine wpList_store_row rfl _ _ _ rfl (w.heap.size + 1 + 1) (ivs .u8 (List.replicate 16 0)) rfl rfl 87 _ q1 (by rw [ivs_size]; exact size87) (by simp [ivs_size]) ivs_one ?_)
  have b1 : Blk ((((w.alloc (.cells (ivs .u8 p) 138)).alloc (.cells #[.int .u8 0, .int .u8 0, .int .u8 0, .int .u8 0, .int .u8 0, .int .u8 0, .int .u8 0, .int .u8 0, .int .u8 0, .int .u8 0, .int .u8 0, .int .u8 0, .int .u8 0, .int .u8 0, .int .u8 0, .int .u8 0] 87)).alloc (.cells #[.int .u8 0, .int .u8 0, .int .u8 0, .int .u8 0, .int .u8 0, .int .u8 0, .int .u8 0, .int .u8 0, .int .u8 0, .int .u8 0, .int .u8 0, .int .u8 0, .int .u8 0, .int .u8 0, .int .u8 0, .int .u8 0] 87)).setRow (w.heap.size + 1 + 1) (ivs .u8 (List.replicate 16 0))) w.heap.size 138 (ivs .u8 p) := (((Blk.newAt rfl rfl).alloc _).alloc _).rowFar (by omega) _
  have b2 : Blk ((((w.alloc (.cells (ivs .u8 p) 138)).alloc (.cells #[.int .u8 0, .int .u8 0, .int .u8 0, .int .u8 0, .int .u8 0, .int .u8 0, .int .u8 0, .int .u8 0, .int .u8 0, .int .u8 0, .int .u8 0, .int .u8 0, .int .u8 0, .int .u8 0, .int .u8 0, .int .u8 0] 87)).alloc (.cells #[.int .u8 0, .int .u8 0, .int .u8 0, .int .u8 0, .int .u8 0, .int .u8 0, .int .u8 0, .int .u8 0, .int .u8 0, .int .u8 0, .int .u8 0, .int .u8 0, .int .u8 0, .int .u8 0, .int .u8 0, .int .u8 0] 87)).setRow (w.heap.size + 1 + 1) (ivs .u8 (List.replicate 16 0))) (w.heap.size + 1) 87 (ivs .u8 (List.replicate 16 0)) := ((Blk.newAt (by simp) rfl).alloc _).rowFar (by omega) _
  have b3 := q1.row (ivs .u8 (List.replicate 16 0))
  have bb : Below w.heap.size w ((((w.alloc (.cells (ivs .u8 p) 138)).alloc (.cells #[.int .u8 0, .int .u8 0, .int .u8 0, .int .u8 0, .int .u8 0, .int .u8 0, .int .u8 0, .int .u8 0, .int .u8 0, .int .u8 0, .int .u8 0, .int .u8 0, .int .u8 0, .int .u8 0, .int .u8 0, .int .u8 0] 87)).alloc (.cells #[.int .u8 0, .int .u8 0, .int .u8 0, .int .u8 0, .int .u8 0, .int .u8 0, .int .u8 0, .int .u8 0, .int .u8 0, .int .u8 0, .int .u8 0, .int .u8 0, .int .u8 0, .int .u8 0, .int .u8 0, .int .u8 0] 87)).setRow (w.heap.size + 1 + 1) (ivs .u8 (List.replicate 16 0))) := below_setRow ((((Below.refl _ _).alloc (Nat.le_refl _) _).alloc (by simp) _).alloc (by simp; omega) _) (by omega) _
  have bz := b3.lt
  generalize ((((w.alloc (.cells (ivs .u8 p) 138)).alloc (.cells #[.int .u8 0, .int .u8 0, .int .u8 0, .int .u8 0, .int .u8 0, .int .u8 0, .int .u8 0, .int .u8 0, .int .u8 0, .int .u8 0, .int .u8 0, .int .u8 0, .int .u8 0, .int .u8 0, .int .u8 0, .int .u8 0] 87)).alloc (.cells #[.int .u8 0, .int .u8 0, .int .u8 0, .int .u8 0, .int .u8 0, .int .u8 0, .int .u8 0, .int .u8 0, .int .u8 0, .int .u8 0, .int .u8 0, .int .u8 0, .int .u8 0, .int .u8 0, .int .u8 0, .int .u8 0] 87)).setRow (w.heap.size + 1 + 1) (ivs .u8 (List.replicate 16 0))) = w1 at *
  clear q1
  have hcopy := World.ownsRow_nil w 0 0 0
  clear hcopy
  go_wp2_with fail
  go_region_law (refine step_copy_splice rfl (.tmp 7) (.tmp 8) 40 40 rfl 5 Try.underlying40 hsz5 (some ⟨w.heap.size + 1 + 1, 0, none⟩) (some ⟨w.heap.size, 0, none⟩) 16 16 12 12 rfl rfl (w.heap.size + 1 + 1) 0 ((List.replicate 16 0).map (Value.int .u8)) 87 b3 (p.map (Value.int .u8)) (by rw [List.length_map, hp]; rfl) (fun _ => ⟨rfl, _, rfl, b1.news⟩) (by simp [hp]) ints_one (w.heap.size + 1 + 1) w1.drew (Below.refl _ _) (Nat.le_refl _) ?_; intro w4 hg4 hb4)
  have d1 : Blk w4 w.heap.size 138 (ivs .u8 p) := b1.drew.below hb4 (by omega)
  have d2 : Blk w4 (w.heap.size + 1) 87 (ivs .u8 (List.replicate 16 0)) := b2.drew.below hb4 (by omega)
  have d3 : Blk w4 (w.heap.size + 1 + 1) 87 (ivs .u8 (p ++ List.replicate 4 0)) := by
    have := hg4.out
    unfold Blk ivs
    rw [this, splice, List.take_zero, List.nil_append, List.length_map, hp, List.map_append, ← List.map_drop]
    rfl
  have db : Below w.heap.size w w4 := (below_drew bb).trans (hb4.mono (by omega))
  have dz : w.heap.size + 1 + 1 < w4.heap.size := d3.lt
  clear hg4 hb4 b1 b2 b3 bb bz
  have e0 := d1.drew.range0
  have hu := Try.underlying138
  have hi : (Try.prog.info? 138).map (·.size) = some (p.map (Value.int .u8)).length := by rw [List.length_map, hp]; exact size138
  go_wp2_with fail
  go_region_held3 (fun w' => w'.rangeAt w.heap.size 0 (p.map (Value.int .u8))) (first | exact e0 | exact range_below e0 hb5 (by show _ < w4.heap.size; omega) | exact range_grown (range_below e0 hb5 (by show _ < w4.heap.size; omega)) hg6 (by have := hb5.size; change w4.heap.size ≤ _ at this; omega) (ne_some (by omega)))
    (first
      | (go_at_call 134; refine (checkOf_any n p hp _).mono ?_; rintro e w5 ⟨rfl, hb5⟩)
      | (go_at_call 133; refine (put32_any _ (w.heap.size + 1 + 1) 12 4 4 87 (p ++ List.replicate 4 0) _ (by omega) (by simp [hp]) (d3.drew.below hb5 (by show _ < w4.heap.size; omega))).mono ?_; rintro e w6 ⟨rfl, h6, hg6⟩))
  have b4 : Below w.heap.size w w6 := (((below_drew db).trans (hb5.mono (by show _ ≤ w4.heap.size; omega)))).grown hg6 (by have := hb5.size; change w4.heap.size ≤ _ at this; omega) (fun j e => by injection e; omega)
  have h2 : Blk w6 (w.heap.size + 1) 87 (ivs .u8 (List.replicate 16 0)) := (d2.drew.below hb5 (by show _ < w4.heap.size; omega)).grown hg6 (ne_some (by omega))
  rw [put4_mk hp] at h6
  have hml := mk_length (n := n) hp
  have Hml := Lib.hid hml
  clear hml
  go_wp2_with (first
    | refine wpList_load_row rfl _ _ rfl (w.heap.size + 1 + 1) rfl 87 (ivs .u8 (mk n p)) (0, 0) _ h6 Try.underlying87 rfl (by rw [ivs_size, Hml.out]; exact size87) ?_
    | refine wpList_store_row rfl _ _ _ rfl (w.heap.size + 1) (ivs .u8 (mk n p)) rfl rfl 87 _ h2 (by rw [ivs_size, Hml.out]; exact size87) (by simp [ivs_size, Hml.out]) ivs_one ?_)
  exact bodyPost_ret (results_cell_row rfl _ _ (w.heap.size + 1) 87 (ivs .u8 (mk n p)) (0, 0) _ rfl (h2.row _) Try.underlying87 rfl (by rw [ivs_size, Hml.out]; exact size87)) rfl ⟨rfl, below_setRow b4 (by omega) _⟩
end Go.Proofs.Ytmagaapdijapiaa
