/- The check of a payload with its index: the reference's and the program's walk come to the same number. -/
import Derived.Test.YtmagaapdijapiaaRows
import Derived.Test.YtmagaapdijapiaaFrB
import Derived.Test.YtmagaapdijapiaaEqA
namespace Go.Proofs.Ytmagaapdijapiaa
open Go.ChangeShapes Go.WideShapes Go.ChangeAt Go.RowKit

theorem own_len {w : World} {base : Nat} {e : TypeId} {size n : Nat} {v : Value} {xs : List Value} (h : w.ownsRow base e size v n xs) : xs.length = n * size := h.1
def fnvStep (c b : Int) : Int := bits .xor .u32 c (b % 4294967296) * 16777619 % 4294967296
theorem fnv_take (c : Int) (l : List Int) (k : Nat) (h : k < l.length) : fnvStep (l.take k |>.foldl fnvStep c) (l[k]) = (l.take (k + 1)).foldl fnvStep c := by
  rw [List.take_succ_eq_append_getElem h, List.foldl_append]
  rfl
def fnv (c : Int) (l : List Int) : Int := l.foldl fnvStep c

set_option maxRecDepth 20000 in
set_option maxHeartbeats 400000 in
theorem l09Check_any (n : Int) (p : List Int) (hp : p.length = 12) (w : World) :
    Calls Try.prog 131 #[.int .i64 n, .agg (ivs .u8 p)] w fun e w' => e = .returned (.int .u32 (fnv 2166136261 (four (n % 4294967296) ++ p))) ∧ Below w.heap.size w w' := by
  obtain ⟨i0, hi, hz0, hz1, hz2⟩ := info_parts uint8_info
  go_enter Try.func131, Try.ntmps131
  go_wp2_with (go_at_call 44; refine (l09Four_any _ _).mono ?_; rintro e w' ⟨rfl, rfl⟩)
  go_loopw [6, 7] (fun v i wr => ∃ k : Nat, k ≤ 12 ∧ i = .int .i64 k ∧ wr.ownsRow (w.heap.size + 1) 5 1 v (4 + k) ((four (n % 4294967296)).map (.int .u8) ++ (p.take k).map (.int .u8)) ∧ Blk wr w.heap.size 138 (ivs .u8 p) ∧ Below w.heap.size w wr ∧ w.heap.size + 1 ≤ wr.heap.size) (fun _ i _ => 12 - (intOf i).toNat)
  case atStart =>
    refine ⟨0, by omega, rfl, ?_, ?_, ?_, ?_⟩
    · have := World.ownsRow_lit (e := 5) (base := w.heap.size + 1) (size := 1) (w.alloc (.cells (ivs .u8 p) 138)) (ivs .u8 (four (n % 4294967296))) 4 (by simp) (by unfold maxLen; omega) (by rw [ivs_size]; rfl)
      rw [size_alloc, ivs_toList] at this
      rw [List.take_zero, List.map_nil, List.append_nil]
      exact this
    · exact (Blk.newAt rfl rfl).alloc _
    · exact ((Below.refl _ _).alloc (Nat.le_refl _) _).alloc (by simp) _
    · simp
  case round =>
    obtain ⟨k, hk, rfl, hown, h1, hb, hz⟩ := hrel
    by_cases hlt : k < 12
    · have c1 := h1.cellI (i := k) (by omega)
      have hcell : Blk (wr.alloc (.cells (ivs .u8 [p[k]'(by omega)]) 5)) wr.heap.size 5 (ivs .u8 [p[k]'(by omega)]) := Blk.newAt rfl rfl
      have Hn := Lib.hid hcell.news
      have Hown := Lib.hid hown
      clear hown hcell
      go_wp2_with (at_builtin; refine wpList_append_own _ rfl (.tmp 16) (.tmp 20) 40 rfl (w.heap.size + 1) 5 i0 (.int .u8 0) 1 1 Try.underlying40 hi hz0 hz1 hz2 rfl (by decide) u6 (4 + k) _ rfl (Hown.out.alloc _) ⟨wr.heap.size, 0, none⟩ 1 1 ([p[k]'(by omega)].map (.int .u8)) rfl rfl Hn.out ints_one (by unfold maxLen; omega) (by omega) (by simp; omega) ?_; intro v' w1 hown' hgrow _)
      exact ⟨⟨k + 1, by omega, by go_num, by rw [take_map_succ p k (by omega), ← List.append_assoc]; exact hown', (h1.alloc _).grown hgrow (fun e => by have := (Hown.out.lt _ e.symm).1; omega), (hb.alloc (by omega) _).grown hgrow (by rw [size_alloc]; omega) (fun j e => by have := (Hown.out.lt _ e).1; omega), by have := hgrow.size; rw [size_alloc] at this; omega⟩, by simp [intOf]; omega⟩
    · have : k = 12 := by omega
      subst this
      obtain ⟨g, cap, cur, rfl, hg0, hg1, hbk, hcap, hmax, hcs, hxs⟩ := own_lt hown (by omega)
      go_wp2
      go_loopw [5, 8] (fun c i wq => ∃ k : Nat, k ≤ 16 ∧ i = .int .i64 k ∧ c = .int .u32 (fnv 2166136261 ((four (n % 4294967296) ++ p).take k)) ∧ wq = wr) (fun _ i _ => 16 - (intOf i).toNat)
      case atStart => exact ⟨0, by omega, rfl, rfl, rfl⟩
      case round =>
        obtain ⟨k, hk, rfl, rfl, rfl⟩ := hrel
        by_cases hlt : k < 16
        · have c1 : wr.cell? ⟨g, k, none⟩ = some (.int .u8 ((four (n % 4294967296) ++ p)[k]'(by simp [four]; omega))) := by
            rw [hown.cellAt k (by omega), List.take_of_length_le (by omega), ← List.map_append, List.getElem?_map, List.getElem?_eq_getElem (by simp [four]; omega)]
            rfl
          go_wp2
          exact ⟨⟨k + 1, by omega, by go_num, by unfold fnv; rw [← fnv_take _ _ k (by simp [four]; omega)]; rfl, trivial⟩, by simp [intOf]; omega⟩
        · have : k = 16 := by omega
          subst this
          go_wp2
          go_ret
          exact ⟨ret_int (by rw [List.take_of_length_le (by simp [four]; omega)]), hb⟩

set_option maxRecDepth 20000 in
set_option maxHeartbeats 400000 in
theorem checkOf_any (n : Int) (p : List Int) (hp : p.length = 12) (w : World) :
    Calls Try.prog 134 #[.int .i64 n, .agg (ivs .u8 p)] w fun e w' => e = .returned (.int .u32 (fnv 2166136261 (four (n % 4294967296) ++ p))) ∧ Below w.heap.size w w' := by
  obtain ⟨i0, hi, -, -, -⟩ := info_parts uint8_info
  have hlp : p.length < 2147483647 := by omega
  have Hp := Lib.hid hp
  clear hp
  go_enter Try.func134, Try.ntmps134
  go_wp2_with (go_at_call 93; refine (append32_any _ _ [] (w.heap.size + 1) _ (by simp) ⟨rfl, .inl ⟨rfl, rfl⟩⟩ (by simp)).mono ?_; rintro e w1 ⟨v, rfl, hown, hgrow⟩; simp only [List.length_nil, List.map_nil, List.nil_append, Nat.zero_add] at hown; obtain ⟨g, cap, cur, rfl, hg0, hg1, hbk, hcap, hmax, hcs, hxs⟩ := own_lt hown (by simp))
  have h1 : Blk w1 w.heap.size 138 (ivs .u8 p) := Blk.grown (Blk.newAt rfl rfl) hgrow (by simp [Value.ownBlock])
  have hb : Below w.heap.size w w1 := ((Below.refl _ _).alloc (Nat.le_refl _) (.cells (ivs .u8 p) 138)).grown hgrow (by simp) (by simp [Value.ownBlock])
  clear hgrow hxs hcs hcap hmax hbk
  go_loopw [5, 7, 15] (fun c _ i wq => ∃ k : Nat, k ≤ 4 ∧ i = .int .i64 k ∧ c = .int .u32 (fnv 2166136261 ((four (n % 4294967296)).take k)) ∧ wq = w1) (fun _ _ i _ => 4 - (intOf i).toNat)
  case atStart => exact ⟨0, by omega, rfl, rfl, rfl⟩
  case round =>
    obtain ⟨k, hk, rfl, rfl, rfl⟩ := hrel
    by_cases hlt : k < 4
    · have c1 : wr.cell? ⟨g, k, none⟩ = some (.int .u8 ((four (n % 4294967296))[k]'(by simp [four]; omega))) := by
        rw [hown.cellAt k (by omega), List.getElem?_map, List.getElem?_eq_getElem (by simp [four]; omega)]
        rfl
      go_wp2
      exact ⟨⟨k + 1, by omega, by go_num, by unfold fnv; rw [← fnv_take _ _ k (by simp [four]; omega)]; rfl, trivial⟩, by simp [intOf]; omega⟩
    · have : k = 4 := by omega
      subst this
      go_wp2_with (refine wpList_load_row rfl _ _ rfl w.heap.size rfl 138 (ivs .u8 p) (0, 0) _ h1 Try.underlying138 rfl (by rw [ivs_size, Hp.out]; exact size138) ?_)
      go_loopw [5, 9, 26] (fun c _ i wq => ∃ k : Nat, k ≤ 12 ∧ i = .int .i64 k ∧ c = .int .u32 ((p.take k).foldl fnvStep (fnv 2166136261 ((four (n % 4294967296)).take 4))) ∧ wq = wr) (fun _ _ i _ => 12 - (intOf i).toNat)
      case atStart => exact ⟨0, by omega, rfl, by rw [List.take_zero, List.foldl_nil], rfl⟩
      case round =>
        obtain ⟨k, hk, rfl, rfl, rfl⟩ := hrel
        by_cases hlt : k < 12
        · have hlt' : k < p.length := by rw [Hp.out]; exact hlt
          have hx : (Instr.index 138 (.agg (ivs .u8 p)) (.int .i64 (k : Nat))).run Try.prog wr = .ok (.int .u8 (p[k]'hlt')) wr := run_index_ivs wr Try.underlying138 Try.underlying5 hi (by kernel_rfl) Hp.out hlt
          go_wp2
          exact ⟨⟨k + 1, by omega, by go_num, by rw [← fnv_take _ _ k hlt']; rfl, trivial⟩, by simp [intOf]; omega⟩
        · have : k = 12 := by omega
          subst this
          go_wp2
          go_ret
          exact ⟨ret_int (by unfold fnv; rw [List.foldl_append, List.take_of_length_le (l := p) (by rw [Hp.out]; omega), List.take_of_length_le (l := four (n % 4294967296)) (by simp [four])]), hb⟩
end Go.Proofs.Ytmagaapdijapiaa
