/- KeyOfMask: the reference's and the program's walk come to the same sixteen bytes. -/
import Derived.Test.YtagcmgnakejlcaaRows
import Derived.Test.YtagcmgnakejlcaaBase
import Derived.Test.YtagcmgnakejlcaaEqA
import Derived.Deep.RegionLaw
namespace Go.Proofs.Ytagcmgnakejlcaa
open Go.ChangeShapes Go.WideShapes Go.ChangeAt Go.RowKit
theorem size36 : (Try.prog.info? 36).map (·.size) = some 16 := by kernel_rfl
theorem size24 : (Try.prog.info? 24).map (·.size) = some 16 := by kernel_rfl


theorem uint16_info : (Try.prog.info? 33).map (fun i => (i.zero, i.size, i.bytes)) = some (some (.int .u16 0), 1, 2) := by kernel_rfl
def stA (c b : Int) : Int := IntKind.u64.wrap (IntKind.u64.wrap (c * 1099511628211) + IntKind.u64.wrap b)
def stB (c b : Int) : Int := IntKind.u64.wrap (IntKind.u64.wrap (c * 6364136223846793005) + IntKind.u64.wrap b)
def startA : Int := 14695981039346656037
def startB : Int := 7809847782465536322
def keyA (l : List Int) : Int := l.foldl stA startA
def keyB (l : List Int) : Int := l.foldl stB startB
theorem fold_take (f : Int → Int → Int) (c : Int) (l : List Int) (k : Nat) (h : k < l.length) : f ((l.take k).foldl f c) (l[k]) = (l.take (k + 1)).foldl f c := by
  rw [List.take_succ_eq_append_getElem h, List.foldl_append]
  rfl
def byte8 (n : Int) : List Int := [n / 72057594037927936 % 256, n / 281474976710656 % 256, n / 1099511627776 % 256, n / 4294967296 % 256, n / 16777216 % 256, n / 65536 % 256, n / 256 % 256, n % 256]
def fill2 (x y : Int) (k : Nat) : List Int := ((byte8 x).take k ++ List.replicate (8 - k) 0) ++ ((byte8 y).take k ++ List.replicate (8 - k) 0)
theorem fill2_length {x y : Int} {k : Nat} (h : k ≤ 8) : (fill2 x y k).length = 16 := by simp [fill2, byte8]; omega
def keyBytes (l : List Int) : List Int := byte8 (keyA l) ++ byte8 (keyB l)

set_option maxHeartbeats 1600000 in
theorem l10Key_any (g : Nat) (l : List Int) (hl : l.length = 16) (w : World) (hg : Blk w g 36 (ivs .u16 l)) :
    Calls Try.prog 22 #[.pointer (some ⟨g, 0, none⟩)] w fun e w' => e = .returned (.agg (ivs .u8 (keyBytes l))) ∧ Below w.heap.size w w' := by
  have hlt0 := hg.lt
  have Hlt := Lib.hid hlt0
  clear hlt0
  go_enter Try.func22, Try.ntmps22
  go_wp2_with fail
  go_loopw [3, 4, 5] (fun a b i wr => ∃ k : Nat, k ≤ 16 ∧ i = .int .i64 k ∧ a = .int .u64 ((l.take k).foldl stA startA) ∧ b = .int .u64 ((l.take k).foldl stB startB) ∧ wr = w.alloc (.cells #[.int .u8 0, .int .u8 0, .int .u8 0, .int .u8 0, .int .u8 0, .int .u8 0, .int .u8 0, .int .u8 0, .int .u8 0, .int .u8 0, .int .u8 0, .int .u8 0, .int .u8 0, .int .u8 0, .int .u8 0, .int .u8 0] 24)) (fun _ _ i _ => 16 - (intOf i).toNat)
  case atStart => exact ⟨0, by omega, rfl, rfl, rfl, rfl⟩
  case round =>
    obtain ⟨k, hk, rfl, rfl, rfl, rfl⟩ := hrel
    by_cases hlt : k < 16
    · have c1 := (hg.alloc (.cells #[.int .u8 0, .int .u8 0, .int .u8 0, .int .u8 0, .int .u8 0, .int .u8 0, .int .u8 0, .int .u8 0, .int .u8 0, .int .u8 0, .int .u8 0, .int .u8 0, .int .u8 0, .int .u8 0, .int .u8 0, .int .u8 0] 24)).cellI (i := k) (by omega)
      go_wp2
      exact ⟨⟨k + 1, by omega, by go_num, by rw [← fold_take _ _ _ k (by omega)]; rfl, by rw [← fold_take _ _ _ k (by omega)]; rfl, trivial⟩, by simp [intOf]; omega⟩
    · have : k = 16 := by omega
      subst this
      have hA : (l.take 16).foldl stA startA = keyA l := by rw [List.take_of_length_le (by omega)]; rfl
      have hB : (l.take 16).foldl stB startB = keyB l := by rw [List.take_of_length_le (by omega)]; rfl
      rw [hA, hB]
      clear hA hB hg
      obtain ⟨x, hx⟩ : ∃ x, x = keyA l := ⟨_, rfl⟩
      obtain ⟨y, hy⟩ : ∃ y, y = keyB l := ⟨_, rfl⟩
      rw [← hx, ← hy]
      have HX := Lib.hid hx
      have HY := Lib.hid hy
      clear hx hy
      have r1 : Blk ((w.alloc (.cells #[.int .u8 0, .int .u8 0, .int .u8 0, .int .u8 0, .int .u8 0, .int .u8 0, .int .u8 0, .int .u8 0, .int .u8 0, .int .u8 0, .int .u8 0, .int .u8 0, .int .u8 0, .int .u8 0, .int .u8 0, .int .u8 0] 24)).alloc (.cells #[.int .u8 0, .int .u8 0, .int .u8 0, .int .u8 0, .int .u8 0, .int .u8 0, .int .u8 0, .int .u8 0, .int .u8 0, .int .u8 0, .int .u8 0, .int .u8 0, .int .u8 0, .int .u8 0, .int .u8 0, .int .u8 0] 24)) (w.heap.size + 1) 24 (ivs .u8 (fill2 x y 0)) := Blk.newAt (by simp) rfl
      have r0 : Blk ((w.alloc (.cells #[.int .u8 0, .int .u8 0, .int .u8 0, .int .u8 0, .int .u8 0, .int .u8 0, .int .u8 0, .int .u8 0, .int .u8 0, .int .u8 0, .int .u8 0, .int .u8 0, .int .u8 0, .int .u8 0, .int .u8 0, .int .u8 0] 24)).alloc (.cells #[.int .u8 0, .int .u8 0, .int .u8 0, .int .u8 0, .int .u8 0, .int .u8 0, .int .u8 0, .int .u8 0, .int .u8 0, .int .u8 0, .int .u8 0, .int .u8 0, .int .u8 0, .int .u8 0, .int .u8 0, .int .u8 0] 24)) w.heap.size 24 (ivs .u8 (List.replicate 16 0)) := (Blk.newAt rfl rfl).alloc _
      have rb : Below w.heap.size w ((w.alloc (.cells #[.int .u8 0, .int .u8 0, .int .u8 0, .int .u8 0, .int .u8 0, .int .u8 0, .int .u8 0, .int .u8 0, .int .u8 0, .int .u8 0, .int .u8 0, .int .u8 0, .int .u8 0, .int .u8 0, .int .u8 0, .int .u8 0] 24)).alloc (.cells #[.int .u8 0, .int .u8 0, .int .u8 0, .int .u8 0, .int .u8 0, .int .u8 0, .int .u8 0, .int .u8 0, .int .u8 0, .int .u8 0, .int .u8 0, .int .u8 0, .int .u8 0, .int .u8 0, .int .u8 0, .int .u8 0] 24)) := ((Below.refl _ _).alloc (Nat.le_refl _) _).alloc (by simp) _
      go_wp2_with (refine wpList_store_row rfl _ _ _ rfl (w.heap.size + 1) (ivs .u8 (fill2 x y 0)) rfl rfl 24 _ r1 (by rw [ivs_size]; exact size24) (by simp [ivs_size]) ivs_one ?_)
      go_loopw [7] (fun i wr => ∃ k : Nat, k ≤ 8 ∧ i = .int .i64 k ∧ Blk wr w.heap.size 24 (ivs .u8 (List.replicate 16 0)) ∧ Blk wr (w.heap.size + 1) 24 (ivs .u8 (fill2 x y k)) ∧ Below w.heap.size w wr) (fun i _ => 8 - (intOf i).toNat)
      case atStart => exact ⟨0, by omega, rfl, r0.rowFar (by omega) _, r1.row _, below_setRow rb (by omega) _⟩
      case round =>
        clear r1 r0 rb
        obtain ⟨k, hk, rfl, h1, h2, hb⟩ := hrel
        by_cases hlt : k < 8
        · have f1 := h2.frozen k
          have f2 := h2.frozen (8 + k)
          obtain ⟨u1, c1⟩ := h2.some_ (i := k) (by rw [fill2_length hk]; omega)
          obtain ⟨u2, c2⟩ := h2.some_ (i := 8 + k) (by rw [fill2_length hk]; omega)
          rcases (by omega : k = 0 ∨ k = 1 ∨ k = 2 ∨ k = 3 ∨ k = 4 ∨ k = 5 ∨ k = 6 ∨ k = 7) with rfl | rfl | rfl | rfl | rfl | rfl | rfl | rfl
          · go_wp2
            exact ⟨⟨1, by omega, rfl, (h1.far (by simp) _).far (by simp) _, (h2.setI _ _).setI _ _, (hb.setCell (by simp) _).setCell (by simp) _⟩, by simp [intOf]⟩
          · go_wp2
            exact ⟨⟨2, by omega, rfl, (h1.far (by simp) _).far (by simp) _, (h2.setI _ _).setI _ _, (hb.setCell (by simp) _).setCell (by simp) _⟩, by simp [intOf]⟩
          · go_wp2
            exact ⟨⟨3, by omega, rfl, (h1.far (by simp) _).far (by simp) _, (h2.setI _ _).setI _ _, (hb.setCell (by simp) _).setCell (by simp) _⟩, by simp [intOf]⟩
          · go_wp2
            exact ⟨⟨4, by omega, rfl, (h1.far (by simp) _).far (by simp) _, (h2.setI _ _).setI _ _, (hb.setCell (by simp) _).setCell (by simp) _⟩, by simp [intOf]⟩
          · go_wp2
            exact ⟨⟨5, by omega, rfl, (h1.far (by simp) _).far (by simp) _, (h2.setI _ _).setI _ _, (hb.setCell (by simp) _).setCell (by simp) _⟩, by simp [intOf]⟩
          · go_wp2
            exact ⟨⟨6, by omega, rfl, (h1.far (by simp) _).far (by simp) _, (h2.setI _ _).setI _ _, (hb.setCell (by simp) _).setCell (by simp) _⟩, by simp [intOf]⟩
          · go_wp2
            exact ⟨⟨7, by omega, rfl, (h1.far (by simp) _).far (by simp) _, (h2.setI _ _).setI _ _, (hb.setCell (by simp) _).setCell (by simp) _⟩, by simp [intOf]⟩
          · go_wp2
            exact ⟨⟨8, by omega, rfl, (h1.far (by simp) _).far (by simp) _, (h2.setI _ _).setI _ _, (hb.setCell (by simp) _).setCell (by simp) _⟩, by simp [intOf]⟩
        · have : k = 8 := by omega
          subst this
          have hf : fill2 x y 8 = byte8 x ++ byte8 y := rfl
          rw [hf] at h2
          clear hf
          have hML : (byte8 x ++ byte8 y).length = 16 := rfl
          go_wp2_with (first
            | refine wpList_load_row rfl _ _ rfl (w.heap.size + 1) rfl 24 (ivs .u8 (byte8 x ++ byte8 y)) (0, 0) _ h2 Try.underlying24 rfl (by rw [ivs_size, hML]; exact size24) ?_
            | refine wpList_store_row rfl _ _ _ rfl w.heap.size (ivs .u8 (byte8 x ++ byte8 y)) rfl rfl 24 _ h1 (by rw [ivs_size, hML]; exact size24) (by simp [ivs_size, hML]) ivs_one ?_)
          exact bodyPost_ret (results_cell_row rfl _ _ w.heap.size 24 (ivs .u8 (byte8 x ++ byte8 y)) (0, 0) _ rfl (h1.row _) Try.underlying24 rfl (by rw [ivs_size, hML]; exact size24)) rfl ⟨by rw [HX.out, HY.out]; rfl, below_setRow hb (by omega) _⟩

def put8 (l : List Int) (o : Nat) (n : Int) : List Int := (((((((l.set o (n / 72057594037927936 % 256)).set (o + 1) (n / 281474976710656 % 256)).set (o + 2) (n / 1099511627776 % 256)).set (o + 3) (n / 4294967296 % 256)).set (o + 4) (n / 16777216 % 256)).set (o + 5) (n / 65536 % 256)).set (o + 6) (n / 256 % 256)).set (o + 7) (n % 256)

set_option maxHeartbeats 800000 in
theorem put64_any (n : Int) (g o m c : Nat) (t : TypeId) (l : List Int) (w : World) (hm : 8 ≤ m) (ho : o + 8 ≤ l.length) (hb : Blk w g t (ivs .u8 l)) :
    Calls Try.prog 26 #[.agg #[], .slice (some ⟨g, o, none⟩) m c, .int .u64 n] w fun e w' => e = .returned (.tuple #[]) ∧ Blk w' g t (ivs .u8 (put8 l o n)) ∧ w.grownBy w' (some g) := by
  have h := hb.alloc (.cells #[] 53)
  obtain ⟨x0, c0⟩ := h.some_ (i := o) (by omega)
  obtain ⟨x1, c1⟩ := h.some_ (i := o + 1) (by omega)
  obtain ⟨x2, c2⟩ := h.some_ (i := o + 2) (by omega)
  obtain ⟨x3, c3⟩ := h.some_ (i := o + 3) (by omega)
  obtain ⟨x4, c4⟩ := h.some_ (i := o + 4) (by omega)
  obtain ⟨x5, c5⟩ := h.some_ (i := o + 5) (by omega)
  obtain ⟨x6, c6⟩ := h.some_ (i := o + 6) (by omega)
  obtain ⟨x7, c7⟩ := h.some_ (i := o + 7) (by omega)
  have f0 := h.frozen (o)
  have f1 := h.frozen (o + 1)
  have f2 := h.frozen (o + 2)
  have f3 := h.frozen (o + 3)
  have f4 := h.frozen (o + 4)
  have f5 := h.frozen (o + 5)
  have f6 := h.frozen (o + 6)
  have f7 := h.frozen (o + 7)
  have hs := (((((((h.setI o (n / 72057594037927936 % 256)).setI (o + 1) (n / 281474976710656 % 256)).setI (o + 2) (n / 1099511627776 % 256)).setI (o + 3) (n / 4294967296 % 256)).setI (o + 4) (n / 16777216 % 256)).setI (o + 5) (n / 65536 % 256)).setI (o + 6) (n / 256 % 256)).setI (o + 7) (n % 256)
  have Hs := Lib.hid hs
  clear h hs hb ho
  go_enter Try.func26, Try.ntmps26
  go_wp2
  go_end0
  refine ⟨rfl, Hs.out, ?_⟩
  iterate 8 refine only_setCell ?_ rfl _
  exact only_alloc (World.grownBy.refl w _) _

theorem put8_put8 (x y : Int) : put8 (put8 (List.replicate 16 0) 0 x) 8 y = byte8 x ++ byte8 y := rfl
theorem put8_length (l : List Int) (o : Nat) (n : Int) : (put8 l o n).length = l.length := by simp [put8]

set_option maxHeartbeats 1600000 in
theorem keyOf_any (l : List Int) (hl : l.length = 16) (w : World) :
    Calls Try.prog 23 #[.agg (ivs .u16 l)] w fun e w' => e = .returned (.agg (ivs .u8 (keyBytes l))) ∧ Below w.heap.size w w' := by
  obtain ⟨i0, hi, -, -, -⟩ := info_parts uint16_info
  have h1 : Blk ((w.alloc (.cells (ivs .u16 l) 36)).alloc (.cells #[.int .u8 0, .int .u8 0, .int .u8 0, .int .u8 0, .int .u8 0, .int .u8 0, .int .u8 0, .int .u8 0, .int .u8 0, .int .u8 0, .int .u8 0, .int .u8 0, .int .u8 0, .int .u8 0, .int .u8 0, .int .u8 0] 24)) w.heap.size 36 (ivs .u16 l) := (Blk.newAt rfl rfl).alloc _
  have hl' : l.length < 2147483647 := by omega
  have Hl := Lib.hid hl
  clear hl
  go_enter Try.func23, Try.ntmps23
  go_wp2_with (refine wpList_load_row rfl _ _ rfl w.heap.size rfl 36 (ivs .u16 l) (0, 0) _ h1 Try.underlying36 rfl (by rw [ivs_size, Hl.out]; exact size36) ?_)
  go_loopw [3, 4, 6, 9] (fun a b _ i wr => ∃ k : Nat, k ≤ 16 ∧ i = .int .i64 k ∧ a = .int .u64 ((l.take k).foldl stA startA) ∧ b = .int .u64 ((l.take k).foldl stB startB) ∧ wr = (w.alloc (.cells (ivs .u16 l) 36)).alloc (.cells #[.int .u8 0, .int .u8 0, .int .u8 0, .int .u8 0, .int .u8 0, .int .u8 0, .int .u8 0, .int .u8 0, .int .u8 0, .int .u8 0, .int .u8 0, .int .u8 0, .int .u8 0, .int .u8 0, .int .u8 0, .int .u8 0] 24)) (fun _ _ _ i _ => 16 - (intOf i).toNat)
  case atStart => exact ⟨0, by omega, rfl, rfl, rfl, rfl⟩
  case round =>
    obtain ⟨k, hk, rfl, rfl, rfl, rfl⟩ := hrel
    by_cases hlt : k < 16
    · have hlt' : k < l.length := by rw [Hl.out]; exact hlt
      have hx : ∀ W : World, (Instr.index 36 (.agg (ivs .u16 l)) (.int .i64 (k : Nat))).run Try.prog W = .ok (.int .u16 (l[k]'hlt')) W := fun W => run_index_ivs W Try.underlying36 Try.underlying33 hi (by kernel_rfl) Hl.out hlt
      go_wp2
      exact ⟨⟨k + 1, by omega, by go_num, by rw [← fold_take _ _ _ k hlt']; rfl, by rw [← fold_take _ _ _ k hlt']; rfl, trivial⟩, by simp [intOf]; omega⟩
    · have : k = 16 := by omega
      subst this
      have hA : (l.take 16).foldl stA startA = keyA l := by rw [List.take_of_length_le (by rw [Hl.out]; omega)]; rfl
      have hB : (l.take 16).foldl stB startB = keyB l := by rw [List.take_of_length_le (by rw [Hl.out]; omega)]; rfl
      rw [hA, hB]
      clear hA hB h1
      obtain ⟨x, hx⟩ : ∃ x, x = keyA l := ⟨_, rfl⟩
      obtain ⟨y, hy⟩ : ∃ y, y = keyB l := ⟨_, rfl⟩
      rw [← hx, ← hy]
      have HX := Lib.hid hx
      have HY := Lib.hid hy
      clear hx hy
      have q1 : Blk (((w.alloc (.cells (ivs .u16 l) 36)).alloc (.cells #[.int .u8 0, .int .u8 0, .int .u8 0, .int .u8 0, .int .u8 0, .int .u8 0, .int .u8 0, .int .u8 0, .int .u8 0, .int .u8 0, .int .u8 0, .int .u8 0, .int .u8 0, .int .u8 0, .int .u8 0, .int .u8 0] 24)).alloc (.cells #[.int .u8 0, .int .u8 0, .int .u8 0, .int .u8 0, .int .u8 0, .int .u8 0, .int .u8 0, .int .u8 0, .int .u8 0, .int .u8 0, .int .u8 0, .int .u8 0, .int .u8 0, .int .u8 0, .int .u8 0, .int .u8 0] 24)) (w.heap.size + 1 + 1) 24 (ivs .u8 (List.replicate 16 0)) := Blk.newAt (by simp) rfl
      go_wp2_with (refine wpList_store_row rfl _ _ _ rfl (w.heap.size + 1 + 1) (ivs .u8 (List.replicate 16 0)) rfl rfl 24 _ q1 (by rw [ivs_size]; exact size24) (by simp [ivs_size]) ivs_one ?_)
      have b3 := q1.row (ivs .u8 (List.replicate 16 0))
      have b2 : Blk ((((w.alloc (.cells (ivs .u16 l) 36)).alloc (.cells #[.int .u8 0, .int .u8 0, .int .u8 0, .int .u8 0, .int .u8 0, .int .u8 0, .int .u8 0, .int .u8 0, .int .u8 0, .int .u8 0, .int .u8 0, .int .u8 0, .int .u8 0, .int .u8 0, .int .u8 0, .int .u8 0] 24)).alloc (.cells #[.int .u8 0, .int .u8 0, .int .u8 0, .int .u8 0, .int .u8 0, .int .u8 0, .int .u8 0, .int .u8 0, .int .u8 0, .int .u8 0, .int .u8 0, .int .u8 0, .int .u8 0, .int .u8 0, .int .u8 0, .int .u8 0] 24)).setRow (w.heap.size + 1 + 1) (ivs .u8 (List.replicate 16 0))) (w.heap.size + 1) 24 (ivs .u8 (List.replicate 16 0)) := ((Blk.newAt (by simp) rfl).alloc _).rowFar (by omega) _
      have bb : Below w.heap.size w ((((w.alloc (.cells (ivs .u16 l) 36)).alloc (.cells #[.int .u8 0, .int .u8 0, .int .u8 0, .int .u8 0, .int .u8 0, .int .u8 0, .int .u8 0, .int .u8 0, .int .u8 0, .int .u8 0, .int .u8 0, .int .u8 0, .int .u8 0, .int .u8 0, .int .u8 0, .int .u8 0] 24)).alloc (.cells #[.int .u8 0, .int .u8 0, .int .u8 0, .int .u8 0, .int .u8 0, .int .u8 0, .int .u8 0, .int .u8 0, .int .u8 0, .int .u8 0, .int .u8 0, .int .u8 0, .int .u8 0, .int .u8 0, .int .u8 0, .int .u8 0] 24)).setRow (w.heap.size + 1 + 1) (ivs .u8 (List.replicate 16 0))) := below_setRow ((((Below.refl _ _).alloc (Nat.le_refl _) _).alloc (by simp) _).alloc (by simp; omega) _) (by omega) _
      have bz := b3.lt
      generalize (((w.alloc (.cells (ivs .u16 l) 36)).alloc (.cells #[.int .u8 0, .int .u8 0, .int .u8 0, .int .u8 0, .int .u8 0, .int .u8 0, .int .u8 0, .int .u8 0, .int .u8 0, .int .u8 0, .int .u8 0, .int .u8 0, .int .u8 0, .int .u8 0, .int .u8 0, .int .u8 0] 24)).alloc (.cells #[.int .u8 0, .int .u8 0, .int .u8 0, .int .u8 0, .int .u8 0, .int .u8 0, .int .u8 0, .int .u8 0, .int .u8 0, .int .u8 0, .int .u8 0, .int .u8 0, .int .u8 0, .int .u8 0, .int .u8 0, .int .u8 0] 24)).setRow (w.heap.size + 1 + 1) (ivs .u8 (List.replicate 16 0)) = w1 at *
      clear q1
      have Bz := Lib.hid bz
      clear bz
      go_wp2_with fail
      go_region_law (go_simp; go_at_call 26; refine (put64_any x (w.heap.size + 1 + 1) 0 8 16 24 (List.replicate 16 0) w1.drew (by omega) (by simp) b3.drew).mono ?_; rintro e w2 ⟨rfl, h2, hg2⟩)
      have Bz2 : Hid (w.heap.size + 1 + 1 < w2.heap.size) := h2.lt
      have r2 : Blk w2 (w.heap.size + 1) 24 (ivs .u8 (List.replicate 16 0)) := b2.drew.grown hg2 (ne_some (by omega))
      have B2 : Below w.heap.size w w2 := (below_drew bb).grown hg2 (by have := Bz.out; show _ ≤ w1.heap.size; omega) (fun j e => by injection e; omega)
      clear hg2 b2 b3 bb
      go_wp2_with fail
      go_region_law (go_simp; go_at_call 26; refine (put64_any y (w.heap.size + 1 + 1) 8 8 8 24 (put8 (List.replicate 16 0) 0 x) w2.drew (by omega) (by rw [put8_length]; simp) h2.drew).mono ?_; rintro e w3 ⟨rfl, h3, hg3⟩)
      have r3 : Blk w3 (w.heap.size + 1) 24 (ivs .u8 (List.replicate 16 0)) := r2.drew.grown hg3 (ne_some (by omega))
      have B3 : Below w.heap.size w w3 := (below_drew B2).grown hg3 (by have := Bz2.out; show _ ≤ w2.heap.size; omega) (fun j e => by injection e; omega)
      rw [put8_put8] at h3
      clear hg3 r2 B2 h2
      have hML : (byte8 x ++ byte8 y).length = 16 := rfl
      go_wp2_with (first
        | refine wpList_load_row rfl _ _ rfl (w.heap.size + 1 + 1) rfl 24 (ivs .u8 (byte8 x ++ byte8 y)) (0, 0) _ h3 Try.underlying24 rfl (by rw [ivs_size, hML]; exact size24) ?_
        | refine wpList_store_row rfl _ _ _ rfl (w.heap.size + 1) (ivs .u8 (byte8 x ++ byte8 y)) rfl rfl 24 _ r3 (by rw [ivs_size, hML]; exact size24) (by simp [ivs_size, hML]) ivs_one ?_)
      exact bodyPost_ret (results_cell_row rfl _ _ (w.heap.size + 1) 24 (ivs .u8 (byte8 x ++ byte8 y)) (0, 0) _ rfl (r3.row _) Try.underlying24 rfl (by rw [ivs_size, hML]; exact size24)) rfl ⟨by rw [HX.out, HY.out]; rfl, below_setRow B3 (by omega) _⟩
end Go.Proofs.Ytagcmgnakejlcaa
