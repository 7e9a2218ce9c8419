/- Whether a number lies between two others; the check of a payload; frames. Each function leaves what was there as it was. -/
import Derived.Test.YtmagaapdijapiaaRows
import Derived.Test.YtmagaapdijapiaaFrA
import Derived.Test.YtmagaapdijapiaaInr
namespace Go.Proofs.Ytmagaapdijapiaa
open Go.ChangeShapes Go.WideShapes Go.ChangeAt Go.RowKit

set_option maxHeartbeats 400000 in
theorem inRange_any (n lo hi : Int) (w : World) : Calls Try.prog 122 #[.int .i64 n, .int .i64 lo, .int .i64 hi] w fun e w' => e = .returned (.bool (inB n lo hi)) ∧ w = w' := by
  go_enter Try.func122, Try.ntmps122
  go_wp2
  all_goals
    go_ret
    exact ⟨by simp [inB, *]; try omega, rfl⟩

def four (n : Int) : List Int := [n / 16777216 % 256, n / 65536 % 256, n / 256 % 256, n % 256]

set_option maxHeartbeats 400000 in
theorem l09Four_any (n : Int) (w : World) : Calls Try.prog 44 #[.int .u32 n] w fun e w' => e = .returned (.slice (some ⟨w.heap.size, 0, none⟩) 4 4) ∧ w' = w.alloc (.cells (ivs .u8 (four n)) 5) := by
  go_enter Try.func44, Try.ntmps44
  go_wp2
  go_ret
  exact ⟨rfl, rfl⟩

theorem uint8_info : (Try.prog.info? 5).map (fun i => (i.zero, i.size, i.bytes)) = some (some (.int .u8 0), 1, 1) := by kernel_rfl

set_option maxHeartbeats 400000 in
theorem append32_any (n : Int) (v : Value) (l : List Int) (B : Nat) (w : World) (hB : B ≤ w.heap.size) (hown : w.ownsRow B 5 1 v l.length (l.map (.int .u8))) (hlen : l.length ≤ 1000000000) :
    Calls Try.prog 93 #[.agg #[], v, .int .u32 n] w fun e w' => ∃ v', e = .returned v' ∧ w'.ownsRow B 5 1 v' (l.length + 4) (l.map (.int .u8) ++ (four n).map (.int .u8)) ∧ w.grownBy w' v.ownBlock := by
  obtain ⟨i0, hi, hz0, hz1, hz2⟩ := info_parts uint8_info
  have hb : Blk ((w.alloc (.cells #[] 96)).alloc (.cells (ivs .u8 (four n)) 5)) (w.heap.size + 1) 5 (ivs .u8 (four n)) := Blk.newAt (by simp) rfl
  have hn := hb.news
  have Hn := Lib.hid hn
  clear hn hb
  have Hown := Lib.hid hown
  clear hown
  go_enter Try.func93, Try.ntmps93
  go_wp2_with (at_builtin; refine wpList_append_own _ rfl (.tmp 7) (.tmp 19) 40 rfl B 5 i0 (.int .u8 0) 1 1 Try.underlying40 hi hz0 hz1 hz2 rfl (by decide) v l.length (l.map (.int .u8)) rfl ((Hown.out.alloc _).alloc _) ⟨w.heap.size + 1, 0, none⟩ 4 4 ((four n).map (.int .u8)) rfl rfl Hn.out ints_one (by unfold maxLen; omega) (by omega) (by simp; omega) ?_; intro v' w' hown' hgrow _)
  go_ret
  exact ⟨v', rfl, hown', ((World.grownBy_alloc _ _ _).trans (World.grownBy_alloc _ _ _)).trans hgrow⟩

def put4 (l : List Int) (o : Nat) (n : Int) : List Int := (((l.set o (n / 16777216 % 256)).set (o + 1) (n / 65536 % 256)).set (o + 2) (n / 256 % 256)).set (o + 3) (n % 256)
theorem put4_length (l : List Int) (o : Nat) (n : Int) : (put4 l o n).length = l.length := by simp [put4]

set_option maxHeartbeats 400000 in
theorem put32_any (n : Int) (g o m c : Nat) (t : TypeId) (l : List Int) (w : World) (hm : 4 ≤ m) (ho : o + 4 ≤ l.length) (hb : Blk w g t (ivs .u8 l)) :
    Calls Try.prog 133 #[.agg #[], .slice (some ⟨g, o, none⟩) m c, .int .u32 n] w fun e w' => e = .returned (.tuple #[]) ∧ Blk w' g t (ivs .u8 (put4 l o n)) ∧ w.grownBy w' (some g) := by
  have h := hb.alloc (.cells #[] 96)
  obtain ⟨x0, c0⟩ := h.some_ (i := o) (by omega)
  obtain ⟨x1, c1⟩ := h.some_ (i := o + 1) (by omega)
  obtain ⟨x2, c2⟩ := h.some_ (i := o + 2) (by omega)
  obtain ⟨x3, c3⟩ := h.some_ (i := o + 3) (by omega)
  have f0 := h.frozen o
  have f1 := h.frozen (o + 1)
  have f2 := h.frozen (o + 2)
  have f3 := h.frozen (o + 3)
  have hs := (((h.setI o (n / 16777216 % 256)).setI (o + 1) (n / 65536 % 256)).setI (o + 2) (n / 256 % 256)).setI (o + 3) (n % 256)
  have Hs := Lib.hid hs
  clear h hs hb ho
  go_enter Try.func133, Try.ntmps133
  go_wp2
  go_end0
  refine ⟨rfl, Hs.out, ?_⟩
  refine only_setCell ?_ rfl _
  refine only_setCell ?_ rfl _
  refine only_setCell ?_ rfl _
  refine only_setCell ?_ rfl _
  exact only_alloc (World.grownBy.refl w _) _
end Go.Proofs.Ytmagaapdijapiaa
