/- What a file's head tells: the kind, the count and the number of bytes, and whether it is one. -/
import Derived.Test.YtmagaapdijapiaaRows
import Derived.Test.YtmagaapdijapiaaUa
import Derived.Test.YtmagaapdijapiaaFrB
import Derived.Deep.RegionLaw
import Derived.Lib.SlBytesConst
import Derived.ArgAppend
import Derived.Deep.RegionHeld3
namespace Go.Proofs.Ytmagaapdijapiaa
open Go.ChangeShapes Go.WideShapes Go.ChangeAt Go.RowKit

def is255 (l : List Int) : Prop := ∀ x ∈ l, 0 ≤ x ∧ x ≤ 255
theorem is255_of_wfs {l : List Int} (h : ∀ x ∈ l, (Lit.int .u8 x).wf = true) : is255 l := fun x hx => by
  have := h x hx
  simp [Lit.wf, IntKind.min, IntKind.max, IntKind.signed, IntKind.bits] at this
  omega
theorem is255.getD {l : List Int} (h : is255 l) (i : Nat) : 0 ≤ l.getD i 0 ∧ l.getD i 0 ≤ 255 := by
  by_cases hi : i < l.length
  · rw [List.getD_eq_getElem?_getD, List.getElem?_eq_getElem hi]
    exact h _ (List.getElem_mem hi)
  · rw [List.getD_eq_getElem?_getD, List.getElem?_eq_none (by omega)]
    exact ⟨by decide, by decide⟩
def numAt (F : List Int) (o : Nat) : Int := num4 (F.getD o 0) (F.getD (o + 1) 0) (F.getD (o + 2) 0) (F.getD (o + 3) 0)
theorem numAt_range {F : List Int} (h : is255 F) (o : Nat) : 0 ≤ numAt F o ∧ numAt F o ≤ 4294967295 := by
  have h0 := h.getD o
  have h1 := h.getD (o + 1)
  have h2 := h.getD (o + 2)
  have h3 := h.getD (o + 3)
  unfold numAt num4
  omega
def hdKind (F : List Int) : Int := F.getD 3 0
def hdOk (F : List Int) : Bool := F.take 3 == [77, 80, 78]
theorem Blk.getAt {w : World} {g : Nat} {t : TypeId} {k : IntKind} {l : List Int} (h : Blk w g t (ivs k l)) {i : Nat} (hi : i < l.length) : w.cell? ⟨g, i, none⟩ = some (.int k (l.getD i 0)) := by
  have := h.getD i hi
  rwa [Nat.zero_add] at this
theorem beAt_any (F : List Int) (h255 : is255 F) (g o n c : Nat) (t : TypeId) (w : World) (h : Blk w g t (ivs .u8 F)) (hn : 4 ≤ n) (ho : o + 4 ≤ F.length) :
    Calls Try.prog 59 #[.agg #[], .slice (some ⟨g, o, none⟩) n c] w fun e w' => e = .returned (.int .u32 (numAt F o)) ∧ Below w.heap.size w w' :=
  beUint32_any g o n c _ _ _ _ w hn (h255.getD o) (h255.getD (o + 1)) (h255.getD (o + 2)) (h255.getD (o + 3)) (h.getAt (by omega)) (h.getAt (by omega)) (h.getAt (by omega)) (h.getAt (by omega))

theorem strOfNums_inj {a b : List Int} (ha : is255 a) (hb : is255 b) : ((strOfNums a).toList == (strOfNums b).toList) = (a == b) := by
  rw [ByteArray.toList_eq, ByteArray.toList_eq, strOfNums_data, strOfNums_data]
  induction a generalizing b with
  | nil => cases b <;> rfl
  | cons x a ih =>
    cases b with
    | nil => rfl
    | cons y b =>
      have h1 := ha x (List.mem_cons_self ..)
      have h2 := hb y (List.mem_cons_self ..)
      rw [List.map_cons, List.map_cons, List.cons_beq_cons, List.cons_beq_cons, ih (fun z hz => ha z (List.mem_cons_of_mem _ hz)) (fun z hz => hb z (List.mem_cons_of_mem _ hz))]
      congr 1
      rw [Bool.eq_iff_iff, beq_iff_eq, beq_iff_eq]
      constructor
      · intro h
        have := congrArg UInt8.toNat h
        simp only [UInt8.toNat_ofNat'] at this
        omega
      · rintro rfl; rfl

theorem hdOk_eq {F : List Int} (h : is255 F) : ((strOfNums (F.take 3)).toList == (strOfNums [77, 80, 78]).toList) = hdOk F :=
  strOfNums_inj (fun x hx => h x (List.mem_of_mem_take hx)) (fun x hx => by simp at hx; omega)

theorem results_tmp4 {fn : Func} {t u v x : Tmp} (h : fn.results = #[.tmp t, .tmp u, .tmp v, .tmp x]) (tmps : Array Value) (P : Program) (w : World) :
    (results fn tmps).run P w = .ok (.tuple #[tmps.getD t undef, tmps.getD u undef, tmps.getD v undef, tmps.getD x undef]) w := by simp [results, h]

set_option maxRecDepth 20000 in
set_option maxHeartbeats 1600000 in
theorem headOf_any (F : List Int) (hF : F.length = 16) (h255 : is255 F) (w : World) :
    Calls Try.prog 103 #[.agg (ivs .u8 F)] w fun e w' => e = .returned (.tuple #[.int .i64 (hdKind F), .int .i64 (numAt F 4), .int .i64 (numAt F 8), .bool (hdOk F)]) ∧ Below w.heap.size w w' := by
  have hb0 : Blk (w.alloc (.cells (ivs .u8 F) 87)).drew w.heap.size 87 (ivs .u8 F) := Blk.drew (Blk.newAt rfl rfl)
  have bb : Below w.heap.size w (w.alloc (.cells (ivs .u8 F) 87)).drew := below_drew ((Below.refl _ _).alloc (Nat.le_refl _) _)
  have HB0 := Lib.hid hb0
  have HF := Lib.hid hF
  have H255 := Lib.hid h255
  clear hb0 hF h255
  go_enter Try.func103, Try.ntmps103
  go_wp2_with fail
  go_region_law (go_simp; go_at_call 59; first
    | (with_reducible refine (beAt_any F H255.out w.heap.size _ _ _ 87 _ HB0.out (by omega) (by have := HF.out; omega)).mono ?_; rintro e w1 ⟨rfl, hb1⟩)
    | (refine (beAt_any F H255.out w.heap.size _ _ _ 87 _ (HB0.out.below hb1 HB0.out.lt) (by omega) (by have := HF.out; omega)).mono ?_; rintro e w2 ⟨rfl, hb2⟩))
  all_goals
    have hz0 := HB0.out.lt
    have hz1 := hb1.size
    have hz2 := hb2.size
    have b2 := (HB0.out.below hb1 hz0).below hb2 (by omega)
    have B2 := (bb.trans (hb1.mono (Nat.le_of_lt hz0))).trans (hb2.mono (by omega))
    have c3 := b2.getAt (i := 3) (by have := HF.out; omega)
    have HB2 := Lib.hid b2
    have hcv := Lib.run_convert_bytes_const (P := Try.prog) w2 40 5 #[.int .u8 77, .int .u8 80, .int .u8 78] 3 3 Try.underlying40 Try.underlying5
    have hme : (#[.int .u8 77, .int .u8 80, .int .u8 78] : Array Value).size = 3 := rfl
    rw [hme] at hcv
    have hr0 : (w2.alloc (.cells #[.int .u8 77, .int .u8 80, .int .u8 78] 5 (3, 3 + 1))).rangeAt w2.heap.size 0 ([77, 80, 78].map (Value.int .u8)) := fun j v hj => by
      rw [Nat.zero_add, World.cell?_alloc_mark, ← hj]
      simp
    have hb3 := b2.alloc (.cells #[.int .u8 77, .int .u8 80, .int .u8 78] 5 (3, 3 + 1))
    have hp := hasPrefix_any w.heap.size 0 16 16 w2.heap.size 0 3 3 F [77, 80, 78] (by omega) HF.out rfl (by omega) (by omega) _ hb3.range0 hr0
    rw [hdOk_eq H255.out] at hp
    have HP := Lib.hid hp
    have k0 := H255.out.getD 3
    obtain ⟨k0, k1⟩ := k0
    rw [List.getD_eq_getElem?_getD] at k0 k1
    obtain ⟨k2, k3⟩ := numAt_range H255.out 4
    obtain ⟨k4, k5⟩ := numAt_range H255.out 8
    have hzz : w.heap.size ≤ w2.heap.size := by omega
    clear hb1 hb2 b2 hb3 hp hz0 hz1 hz2 hme hr0
    go_wp2_with fail
    refine (HP.out).mono ?_
    rintro e w3 ⟨rfl, rfl⟩
    go_wp2
    refine bodyPost_ret (results_tmp4 rfl _ _ _) rfl ?_
    exact ⟨by unfold hdKind; rw [List.getD_eq_getElem?_getD]; rfl, B2.alloc hzz _⟩
end Go.Proofs.Ytmagaapdijapiaa
