/- FramesOfBytes: the reference's and the program's walk come to the same frames. -/
import Derived.Test.YtmagaapdijapiaaRows
import Derived.Test.YtmagaapdijapiaaSf
import Derived.Test.YtmagaapdijapiaaSb
namespace Go.Proofs.Ytmagaapdijapiaa
open Go.ChangeShapes Go.WideShapes Go.ChangeAt Go.RowKit

def frs (l : List Int) (m : Nat) : List (List Int) := (List.range m).map fun i => (l.drop (i * 16)).take 16
theorem frs_succ (l : List Int) (m : Nat) : frs l (m + 1) = frs l m ++ [(l.drop (m * 16)).take 16] := by simp [frs, List.range_succ]
theorem frs_length (l : List Int) (m : Nat) : (frs l m).length = m := by simp [frs]
theorem frs_rows (l : List Int) (m : Nat) (h : m * 16 ≤ l.length) : Rows_ 16 (frs l m) := fun f hf => by
  obtain ⟨i, hi, rfl⟩ := List.mem_map.1 hf
  have := List.mem_range.1 hi
  simp
  omega
def many (l : List Int) : Nat := if l.length / 16 ≤ 700 then l.length / 16 else 0
def restOf (l : List Int) : Int := if l.length / 16 ≤ 700 then ((l.length % 16 : Nat) : Int) else 0
def codeOf (l : List Int) : Int := if l.length / 16 ≤ 700 then 0 else 3
def outOf (l : List Int) : List (List Int) := frs l (many l)
theorem outOf_rows (l : List Int) : Rows_ 16 (outOf l) := by
  unfold outOf many
  split
  · exact frs_rows l _ (by omega)
  · exact frs_rows l _ (by omega)
theorem outOf_length (l : List Int) : (outOf l).length ≤ 700 := by
  unfold outOf many
  rw [frs_length]
  split <;> omega

theorem results_tmp3 {P : Program} {fn : Func} {t u v : Tmp} (h : fn.results = #[.tmp t, .tmp u, .tmp v]) (tmps : Array Value) (w : World) :
    (results fn tmps).run P w = .ok (.tuple #[tmps.getD t undef, tmps.getD u undef, tmps.getD v undef]) w := by simp [results, h]

/-- what FramesOfBytes gives -/
def GivesFrames (l : List Int) (w : World) (e : Ending) (w' : World) : Prop :=
  ∃ A c, e = .returned (.tuple #[.slice A (outOf l).length c, .int .i64 (restOf l), .int .i64 (codeOf l)]) ∧ Own w' w.heap.size w'.heap.size 87 16 A (outOf l).length c ((outOf l).flatten.map (.int .u8)) ∧ Below w.heap.size w w'

set_option maxRecDepth 20000 in
set_option maxHeartbeats 3200000 in
theorem iFramesOfBytes_any (A : Option Addr) (n c : Nat) (l : List Int) (hl : l.length = n) (hn : n ≤ 1048576) (hnc : n ≤ c) (hc63 : c ≤ 9223372036854775807) (w : World) (hR : Rd w w.heap.size 1 A n (l.map (.int .u8))) :
    Calls Try.prog 30 #[.slice A n c] w (GivesFrames l w) := by
  obtain ⟨i0, hi, hz0, hz1, hz2⟩ := info_parts Frame_info
  have hsz : (Try.prog.info? 87).map (·.size) = some 16 := by kernel_rfl
  by_cases h7 : n / 16 ≤ 700
  · have e1 : many l = n / 16 := by simp [many, hl, h7]
    have e2 : restOf l = ((n % 16 : Nat) : Int) := by simp [restOf, hl, h7]
    have e3 : codeOf l = 0 := by simp [codeOf, hl, h7]
    have E1 := Lib.hid e1
    have E2 := Lib.hid e2
    have E3 := Lib.hid e3
    have h7' : (n : Int) / 16 ≤ 700 := by omega
    have Hl := Lib.hid hl
    clear e1 e2 e3
    go_enter Try.func30, Try.ntmps30
    go_wp2
    go_loopw [6, 7, 15] (fun v _ i wr => ∃ k : Nat, k ≤ n / 16 ∧ i = .int .i64 k ∧ wr.ownsRow w.heap.size 87 16 v k ((frs l k).flatten.map (.int .u8)) ∧ Below w.heap.size w wr) (fun _ _ i _ => n / 16 - (intOf i).toNat)
    case atStart =>
      refine ⟨0, by omega, rfl, ?_, (Below.refl _ _).alloc (Nat.le_refl _) _⟩
      exact World.ownsRow_lit (e := 87) (base := w.heap.size) (size := 16) w #[] 0 (Nat.le_refl _) (by unfold maxLen; omega) rfl
    case round =>
      obtain ⟨k, hk, rfl, hown, hb⟩ := hrel
      by_cases hlt : k < n / 16
      · obtain ⟨b, o, rfl, hbB, hc⟩ := (hR.below hb (Nat.le_refl _)).at_ (by omega)
        have hrg : wr.rangeAt b (o + 16 * k) (((l.drop (k * 16)).take 16).map (.int .u8)) := by
          have := Rd.rangeAt (i := 16 * k) (s := 16) hc
          rw [← List.map_drop, ← List.map_take, Nat.mul_comm 16 k] at this
          rw [Nat.mul_comm 16 k]
          exact this
        have hFl : ((l.drop (k * 16)).take 16).length = 16 := by simp; omega
        obtain ⟨F, hF⟩ : ∃ F, F = (l.drop (k * 16)).take 16 := ⟨_, rfl⟩
        rw [← hF] at hrg hFl
        have harr := fun (a : Option Addr) (c : Nat) (x : World) => run_arrayAt (P := Try.prog) (w := x) 87 5 16 a 16 c Try.underlying87 (by omega)
        have hblk : Blk (wr.alloc (.cells (ivs .u8 F) 87)) wr.heap.size 87 (ivs .u8 F) := Blk.newAt rfl rfl
        have Hn := Lib.hid hblk.news
        have HF := Lib.hid hF
        have HFl := Lib.hid hFl
        have Hrg := Lib.hid hrg
        have HO := Lib.hid hown
        have Hb := Lib.hid hbB
        have b1 : (k : Int) < (n : Int) / 16 := by omega
        have b2 : 16 * (k : Int) + 16 ≤ (n : Int) := by omega
        have b3 : 16 * (k : Int) < (c : Int) := by omega
        have b4 : 16 * k < c := by omega
        clear hc hR hrg hFl hF hblk hown hbB hl
        go_wp2_with (first
          | refine wpList_load_ivs rfl _ _ rfl b (o + 16 * k) (by rfl) .u8 F _ Hrg.out Try.underlying87 rfl (by rw [HFl.out]; exact hsz) ?_
          | refine wpList_buildSlice_row rfl 24 87 (.tmp 27) rfl (kd := .u8) (sz := 16) Try.underlying24 hi hz0 hz1 (by omega) (by omega) F rfl HFl.out ?_
          | (at_builtin; refine wpList_append_own _ rfl (.tmp 18) (.tmp 28) 24 rfl w.heap.size 87 i0 _ 16 16 Try.underlying24 hi hz0 hz1 hz2 rfl (by decide) u6 k _ rfl (HO.out.alloc _) ⟨wr.heap.size, 0, none⟩ 1 1 (F.map (.int .u8)) rfl (by rw [List.length_map, HFl.out]) Hn.out ints_one (by unfold maxLen; omega) (by omega) (by have := hb.size; rw [size_alloc]; omega) ?_; intro v' w1 hown' hgrow _))
        refine ⟨⟨k + 1, by omega, by go_num, ?_, (hb.alloc hb.size _).grown hgrow (by have := hb.size; rw [size_alloc]; omega) (fun j e => (HO.out.lt _ e).1)⟩, by simp [intOf]; omega⟩
        rw [frs_succ, ← HF.out, List.flatten_append, List.flatten_cons, List.flatten_nil, List.append_nil, List.map_append]
        exact hown'
      · have : k = n / 16 := by omega
        subst this
        obtain ⟨A', c', rfl, hO⟩ := Own.of_row hown
        go_wp2
        refine bodyPost_ret (results_tmp3 rfl _ _) rfl ⟨A', c', ?_, ?_, hb⟩
        · rw [E2.out, E3.out, show (outOf l).length = n / 16 from by rw [outOf, frs_length, E1.out]]
          rfl
        · have e4 : outOf l = frs l (n / 16) := by rw [outOf, E1.out]
          rw [e4, frs_length]
          exact hO
  · have e1 : many l = 0 := by simp [many, hl, h7]
    have e2 : restOf l = 0 := by simp [restOf, hl, h7]
    have e3 : codeOf l = 3 := by simp [codeOf, hl, h7]
    have e4 : outOf l = [] := by rw [outOf, e1]; rfl
    have E2 := Lib.hid e2
    have E3 := Lib.hid e3
    have E4 := Lib.hid e4
    have h7' : ¬ (n : Int) / 16 ≤ 700 := by omega
    clear e1 e2 e3 e4
    go_enter Try.func30, Try.ntmps30
    go_wp2
    refine bodyPost_ret (results_tmp3 rfl _ _) rfl ⟨none, 0, ?_, ?_, Below.refl _ _⟩
    · rw [E2.out, E3.out, E4.out]
      rfl
    · rw [E4.out]
      exact ⟨rfl, .inl ⟨rfl, rfl, rfl⟩⟩

end Go.Proofs.Ytmagaapdijapiaa
