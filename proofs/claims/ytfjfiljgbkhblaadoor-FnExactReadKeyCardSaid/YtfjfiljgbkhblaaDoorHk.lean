/- The text of a key, walked: sixteen bytes as thirty-two digits. -/
import Derived.Test.YtfjfiljgbkhblaaDoorRows
import Derived.Test.YtfjfiljgbkhblaaDoorSl
import Derived.Laws.BytesArg
import Derived.Deep.RegionHeld3
namespace Go.Proofs.YtfjfiljgbkhblaaDoor
open Go.ChangeShapes Go.WideShapes Go.ChangeAt Go.RowKit
theorem size23 : (Tryd.prog.info? 23).map (·.size) = some 16 := by kernel_rfl
theorem uint8_info' : (Tryd.prog.info? 5).map (fun i => (i.zero, i.size, i.bytes)) = some (some (.int .u8 0), 1, 1) := by kernel_rfl
def hexTab : Array UInt8 := #[48, 49, 50, 51, 52, 53, 54, 55, 56, 57, 97, 98, 99, 100, 101, 102]
/-- the digit of a number below 16 -/
def hexd (x : Int) : Int := ((hexTab[x.toNat]?.getD 0).toNat : Int)
theorem run_hexd (P : Program) {t : TypeId} (ht : P.underlying t = some .string) (x : Int) (h0 : 0 ≤ x) (h1 : x < 16) (W : World) :
    (Instr.index t (.string { data := #[48, 49, 50, 51, 52, 53, 54, 55, 56, 57, 97, 98, 99, 100, 101, 102] }) (.int .u8 x)).run P W = .ok (.int .u8 (hexd x)) W := by
  rcases (by omega : x = 0 ∨ x = 1 ∨ x = 2 ∨ x = 3 ∨ x = 4 ∨ x = 5 ∨ x = 6 ∨ x = 7 ∨ x = 8 ∨ x = 9 ∨ x = 10 ∨ x = 11 ∨ x = 12 ∨ x = 13 ∨ x = 14 ∨ x = 15) with rfl | rfl | rfl | rfl | rfl | rfl | rfl | rfl | rfl | rfl | rfl | rfl | rfl | rfl | rfl | rfl
  all_goals
    simp only [Instr.index, asIntOf, Sem.run_bind, Sem.run_pure, run_underlying ht, Result.andThen_ok]
    rfl

def hexs : List Int → List Int
  | [] => []
  | b :: l => hexd (b / 16) :: hexd (b % 16) :: hexs l
theorem hexs_length : ∀ l : List Int, (hexs l).length = 2 * l.length
  | [] => rfl
  | b :: l => by simp only [hexs, List.length_cons, hexs_length l]; omega
theorem hexs_append : ∀ (a b : List Int), hexs (a ++ b) = hexs a ++ hexs b
  | [], _ => rfl
  | x :: a, b => by simp only [List.cons_append, hexs, hexs_append a b]
theorem hexs_snoc (l : List Int) (k : Nat) (h : k < l.length) : hexs (l.take (k + 1)) = hexs (l.take k) ++ [hexd (l[k] / 16), hexd (l[k] % 16)] := by
  rw [List.take_succ_eq_append_getElem h, hexs_append]
  rfl
theorem hexs_at : ∀ (l : List Int) (k : Nat) (h : k < l.length), (hexs l)[2 * k]? = some (hexd (l[k] / 16)) ∧ (hexs l)[2 * k + 1]? = some (hexd (l[k] % 16))
  | b :: l, 0, _ => ⟨rfl, rfl⟩
  | b :: l, k + 1, h => by
    have := hexs_at l k (by simpa using h)
    simp only [show 2 * (k + 1) = 2 * k + 1 + 1 by omega, hexs, List.getElem?_cons_succ, List.getElem_cons_succ]
    exact this

set_option maxHeartbeats 800000 in
theorem hexEncode_any (g : Nat) (l : List Int) (hl : l.length = 16) (h255 : ∀ x ∈ l, 0 ≤ x ∧ x ≤ 255) (s : Nat) (w : World) (hs : Blk w s 23 (ivs .u8 l)) (hd : Blk w g 5 (ivs .u8 (List.replicate 32 0))) (hgs : s ≠ g) :
    Calls Tryd.prog 59 #[.slice (some ⟨g, 0, none⟩) 32 32, .slice (some ⟨s, 0, none⟩) 16 16] w fun e w' => e = .returned (.int .i64 32) ∧ w.grownBy w' (some g) ∧ Blk w' g 5 (ivs .u8 (hexs l)) := by
  obtain ⟨M, hM⟩ : ∃ M, M = hexs l := ⟨_, rfl⟩
  have hML : M.length = 32 := by rw [hM, hexs_length, hl]
  have hat := hexs_at l
  rw [← hM] at hat
  have HM := Lib.hid hM
  have Hat := Lib.hid hat
  clear hM hat
  have hgr := World.grownBy.refl w (some g)
  have hd0 : Blk w g 5 (ivs .u8 (M.take 0 ++ List.replicate (32 - 0) 0)) := hd
  go_enter Tryd.func59, Tryd.ntmps59
  go_wp2_with fail
  go_loopw [5, 7, 10] (fun j _ i wr => ∃ k : Nat, k ≤ 16 ∧ i = .int .i64 k ∧ j = .int .i64 ((2 * k : Nat) : Int) ∧ Blk wr s 23 (ivs .u8 l) ∧ Blk wr g 5 (ivs .u8 (M.take (2 * k) ++ List.replicate (32 - 2 * k) 0)) ∧ w.grownBy wr (some g)) (fun _ _ i _ => 16 - (intOf i).toNat)
  case atStart => exact ⟨0, by omega, rfl, rfl, hs, hd0, hgr⟩
  case round =>
    clear hs hd hd0 hgr
    obtain ⟨k, hk, rfl, rfl, h1, h2, hg⟩ := hrel
    by_cases hlt : k < 16
    · have c1 := h1.cellI (i := k) (by omega)
      obtain ⟨b, hb⟩ : ∃ b, b = l[k]'(by omega) := ⟨_, rfl⟩
      have hr := h255 b (hb ▸ List.getElem_mem _)
      have hr0 := hr.1
      have hr1 := hr.2
      have hat := Hat.out k (by omega)
      rw [← hb] at c1 hat
      have HAT := Lib.hid hat
      clear hr hb h255 hat
      have hx1 := fun W => run_hexd Tryd.prog Tryd.underlying9 (b / 16) (by omega) (by omega) W
      have hx2 := fun W => run_hexd Tryd.prog Tryd.underlying9 (b % 16) (by omega) (by omega) W
      obtain ⟨u1, d1⟩ := h2.some_ (i := 2 * k) (by simp; omega)
      obtain ⟨u2, d2⟩ := h2.some_ (i := 2 * k + 1) (by simp; omega)
      have f1 := h2.frozen (2 * k)
      have f2 := h2.frozen (2 * k + 1)
      go_wp2
      refine ⟨⟨k + 1, by omega, by go_num, by congr 1, (h1.far hgs _).far hgs _, ?_, only_setCell (only_setCell hg rfl _) rfl _⟩, by simp [intOf]; omega⟩
      have h3 := (h2.setI (2 * k) (hexd (b / 16))).setI (2 * k + 1) (hexd (b % 16))
      rw [fill_at hML (by omega) 0 HAT.out.1, fill_at hML (by omega) 0 HAT.out.2] at h3
      exact h3
    · have : k = 16 := by omega
      subst this
      rw [fill_end (n := 2 * 16) (by omega)] at h2
      go_wp2
      go_ret
      exact ⟨rfl, hg, HM.out ▸ h2⟩

def keyText (l : List Int) : ByteArray := strOfNums (hexs l)

set_option maxHeartbeats 400000 in
theorem encodedLen16 (w : World) : Calls Tryd.prog 58 #[.int .i64 16] w fun e w' => e = .returned (.int .i64 32) ∧ w = w' := by
  go_enter Tryd.func58, Tryd.ntmps58
  go_wp2
  go_ret
  exact ⟨rfl, rfl⟩

set_option maxHeartbeats 800000 in
theorem encodeToString_any (l : List Int) (hl : l.length = 16) (h255 : ∀ x ∈ l, 0 ≤ x ∧ x ≤ 255) (s : Nat) (w : World) (hs : Blk w s 23 (ivs .u8 l)) :
    Calls Tryd.prog 45 #[.slice (some ⟨s, 0, none⟩) 16 16] w fun e w' => e = .returned (.string (keyText l)) ∧ Below w.heap.size w w' := by
  obtain ⟨i0, hi, hz0, hz1, hz2⟩ := info_parts uint8_info'
  have hmk : ∀ W : World, (Instr.makeSlice 42 (.int .i64 32) (.int .i64 32)).run Tryd.prog W = .ok (.slice (some ⟨W.heap.size, 0, none⟩) 32 32) (W.alloc (.cells (ivs .u8 (List.replicate 32 0)) 5)) := fun W => by kernel_rfl
  have hlt := hs.lt
  have hs1 := hs.alloc (.cells (ivs .u8 (List.replicate 32 0)) 5)
  have hd1 : Blk (w.alloc (.cells (ivs .u8 (List.replicate 32 0)) 5)) w.heap.size 5 (ivs .u8 (List.replicate 32 0)) := Blk.new _ _ _
  have hml : (hexs l).length = 32 := by rw [hexs_length, hl]
  have Hml := Lib.hid hml
  have Hlt := Lib.hid hlt
  clear hml hlt
  go_enter Tryd.func45, Tryd.ntmps45
  go_wp2_with (go_at_call 58; refine (encodedLen16 _).mono ?_; rintro e w' ⟨rfl, rfl⟩)
  refine (hexEncode_any w.heap.size l hl h255 s _ hs1 hd1 (by have := Hlt.out; omega)).mono ?_
  rintro e w2 ⟨rfl, hg, hb⟩
  have hcv := run_convert_bytes_arg (P := Tryd.prog) w2 42 5 Tryd.underlying42 Tryd.underlying5 w.heap.size 0 32 32 (hexs l) Hml.out (fun i hi => hb.getD i (by rw [Hml.out]; exact hi)) 9 Tryd.underlying9
  go_wp2_with fail
  go_ret
  exact ⟨rfl, ((Below.refl _ _).alloc (Nat.le_refl _) _).grown hg (by rw [size_alloc]; omega) (fun j e => by injection e; omega)⟩

set_option maxHeartbeats 800000 in
theorem iKeyText_any (l : List Int) (hl : l.length = 16) (h255 : ∀ x ∈ l, 0 ≤ x ∧ x ≤ 255) (w : World) :
    Calls Tryd.prog 24 #[.agg (ivs .u8 l)] w fun e w' => e = .returned (.string (keyText l)) ∧ Below w.heap.size w w' := by
  have h1 : Blk (w.alloc (.cells (ivs .u8 l) 23)) w.heap.size 23 (ivs .u8 l) := Blk.newAt rfl rfl
  go_enter Tryd.func24, Tryd.ntmps24
  go_wp2_with fail
  refine (encodeToString_any l hl h255 w.heap.size _ h1).mono ?_
  rintro e w2 ⟨rfl, hb⟩
  go_wp2_with fail
  go_ret
  exact ⟨rfl, ((Below.refl _ _).alloc (Nat.le_refl _) _).trans (hb.mono (by rw [size_alloc]; omega))⟩

end Go.Proofs.YtfjfiljgbkhblaaDoor
