/- The file of words: plain law, the walks. -/
import Derived.Test.YtmagaapdijapiaaRows
import Derived.Test.YtmagaapdijapiaaWf
import Derived.Test.YtmagaapdijapiaaSt
import Derived.Test.YtmagaapdijapiaaPl
import Derived.Test.YtmagaapdijapiaaPk
namespace Go.Proofs.Ytmagaapdijapiaa
open Go.ChangeShapes Go.WideShapes Go.ChangeAt Go.RowKit
def wOks (l : List ByteArray) : Bool := l.all wOk
def wData (l : List ByteArray) : List Int := (l.map wcV).flatten
theorem wRows (l : List ByteArray) : Rows_ 16 (l.map wcV) := fun f hf => by
  simp only [List.mem_map] at hf
  obtain ⟨s, _, rfl⟩ := hf
  exact wcV_length s
theorem wData_length (l : List ByteArray) : (wData l).length = l.length * 16 := by rw [wData, flat_length (wRows l), List.length_map]
theorem wData_snoc {l : List ByteArray} {k : Nat} (h : k < l.length) : wData (l.take (k + 1)) = wData (l.take k) ++ wcV l[k] := by
  rw [wData, wData, List.take_succ_eq_append_getElem h, List.map_append, List.flatten_append]
  simp
def wfC (l : List ByteArray) : Int := if wOks l then (if l.length ≤ 256 then 0 else 3) else 1
def wfF (l : List ByteArray) : List (List Int) := if wOks l = true ∧ l.length ≤ 256 then packOf 3 l.length (wData l) else []
theorem wfF_rows (l : List ByteArray) : Rows_ 16 (wfF l) := by
  unfold wfF
  split
  · exact packOf_rows _ _ _
  · intro f hf; cases hf
def GivesF2 (fs : List (List Int)) (code : Int) (w : World) (e : Ending) (w' : World) : Prop :=
  ∃ A c, e = .returned (.tuple #[.slice A fs.length c, .int .i64 code]) ∧ Own w' w.heap.size w'.heap.size 87 16 A fs.length c (fs.flatten.map (.int .u8)) ∧ Below w.heap.size w w'
theorem Own.cap_ {w : World} {lo hi : Nat} {e : TypeId} {size : Nat} {A : Option Addr} {n c : Nat} {xs : List Value} (h : Own w lo hi e size A n c xs) : c ≤ 9223372036854775807 := by
  rcases h.2 with ⟨_, _, rfl⟩ | ⟨g, cur, h1, h2, h3, h4, h5, h6, _⟩
  · omega
  · unfold maxLen at h6; omega
theorem wOks_no {l : List ByteArray} {k : Nat} (hk : k < l.length) (h : wOk l[k] = false) : wOks l = false := by
  rw [wOks, List.all_eq_false]
  exact ⟨l[k], List.getElem_mem _, by rw [h]; decide⟩
theorem wOks_yes {l : List ByteArray} (h : ∀ j (hj : j < l.length), wOk l[j] = true) : wOks l = true := by
  rw [wOks, List.all_eq_true]
  intro s hs
  obtain ⟨j, hj, rfl⟩ := List.getElem_of_mem hs
  exact h j hj

set_option maxRecDepth 20000 in
set_option maxHeartbeats 6400000 in
theorem iWordFile_any (A : Option Addr) (n c : Nat) (l : List ByteArray) (hl : l.length = n) (hn : n ≤ 1048576) (hz : ∀ s ∈ l, s.size ≤ 1048576) (w : World) (hR : Rd w w.heap.size 1 A n (strs l)) :
    Calls Try.prog 25 #[.slice A n c] w (GivesF2 (wfF l) (wfC l) w) := by
  obtain ⟨i0, hi, hz0, hz1, hz2⟩ := info_parts Byt_info
  have h0 : (w.alloc (.cells #[] 5)).ownsRow w.heap.size 5 1 (.slice (some ⟨w.heap.size, 0, none⟩) 0 0) 0 ((wData (l.take 0)).map (.int .u8)) := World.ownsRow_lit (e := 5) (base := w.heap.size) (size := 1) w #[] 0 (Nat.le_refl _) (by unfold maxLen; omega) rfl
  have H0 := Lib.hid h0
  have HR := Lib.hid hR
  have HZ := Lib.hid hz
  have Hl := Lib.hid hl
  clear h0 hR hz hl
  go_enter Try.func25, Try.ntmps25
  go_wp2
  go_loopw [4, 6, 7, 8, 12] (fun v _ _ _ i wr => ∃ k : Nat, k ≤ n ∧ i = .int .i64 k ∧ Hid (∀ j (h : j < l.length), j < k → wOk l[j] = true) ∧ (∃ g cc, v = .slice (some ⟨g, 0, none⟩) (k * 16) cc) ∧ wr.ownsRow w.heap.size 5 1 v (k * 16) ((wData (l.take k)).map (.int .u8)) ∧ Below w.heap.size w wr) (fun _ _ _ _ i _ => n - (intOf i).toNat)
  case atStart => exact ⟨0, by omega, rfl, Lib.hid (fun j h hj => by omega), ⟨_, _, rfl⟩, H0.out, (Below.refl _ _).alloc (Nat.le_refl _) _⟩
  case round =>
    clear H0
    obtain ⟨k, hk, rfl, hv, ⟨g, cc, rfl⟩, ho, hb⟩ := hrel
    by_cases hlt : k < n
    · have hkl : k < l.length := by rw [Hl.out]; exact hlt
      obtain ⟨b, o, rfl, hbB, hc⟩ := (HR.out.below hb (Nat.le_refl _)).at_ (by omega)
      have c1 := hc k _ (strs_at hkl)
      have hcd := fun W => iCodeOfWord_any l[k] (HZ.out _ (List.getElem_mem _)) W
      have hwl := wcV_length l[k]
      have hlt' : (k : Int) < n := by omega
      have HO := Lib.hid ho
      have HB := Lib.hid hb
      have HS := Lib.hid (wData_snoc hkl)
      have hno := fun h => wOks_no (k := k) hkl h
      have hv2 : wOk l[k] = true → Hid (∀ j (h : j < l.length), j < k + 1 → wOk l[j] = true) := fun h => Lib.hid (fun j hj hjk => by
        by_cases e : j = k
        · subst e; exact h
        · exact hv.out j hj (by omega))
      have HNO := Lib.hid hno
      have HV := Lib.hid hv2
      have hcode : wcC l[k] = if wOk l[k] then 0 else 1 := rfl
      have HC := Lib.hid hcode
      have HWL := Lib.hid hwl
      have hks : (k * 16 + 16 : Nat) ≤ 16777216 := by omega
      have HKS := Lib.hid hks
      clear hc hbB ho hb hno hv2 hwl hcode hv hks
      generalize l[k] = s at *
      rcases hok : wOk s with _ | _
      · rw [hok] at HC
        have hcd1 := hcd
        rw [HC.out] at hcd1
        have HCD := Lib.hid hcd1
        have hf : wOks l = false := HNO.out hok
        have e1 : wfC l = 1 := by rw [wfC, hf]; rfl
        have e2 : wfF l = [] := by rw [wfF, hf]; rfl
        have E1 := Lib.hid e1
        have E2 := Lib.hid e2
        clear hcd hcd1 hf e1 e2 hok
        generalize wcV s = V at *
        go_wp2_with (first
          | (go_at_call 66; refine (HCD.out _).mono ?_; rintro e w2 ⟨rfl, hb2⟩; have HB2 := Lib.hid hb2; clear hb2)
          | refine wpList_store_row rfl _ _ _ rfl w2.heap.size (ivs .u8 V) rfl rfl 103 (ivs .u8 (List.replicate 16 0)) (Blk.newAt rfl rfl) (by rw [ivs_size, HWL.out]; exact size103) (by simp [ivs_size, HWL.out]) ivs_one ?_)
        go_ret2
        have B2 := HB.out.trans (HB2.out.mono HB.out.size)
        refine ⟨none, 0, ?_, ?_, below_setRow (B2.alloc B2.size _) (g := w2.heap.size) B2.size _⟩
        · rw [E1.out, E2.out]; rfl
        · rw [E2.out]; exact ⟨rfl, .inl ⟨rfl, rfl, rfl⟩⟩
      · rw [hok] at HC
        have hcd1 := hcd
        rw [HC.out] at hcd1
        have HCD := Lib.hid hcd1
        have HV2 := HV.out hok
        clear hcd hcd1 hok HNO HV
        generalize wcV s = V at *
        go_wp2_with (first
          | (go_at_call 66; refine (HCD.out _).mono ?_; rintro e w2 ⟨rfl, hb2⟩; have HB2 := Lib.hid hb2; have HS2 : Hid (Below w2.heap.size w2 ((w2.alloc (.cells #[.int .u8 0, .int .u8 0, .int .u8 0, .int .u8 0, .int .u8 0, .int .u8 0, .int .u8 0, .int .u8 0, .int .u8 0, .int .u8 0, .int .u8 0, .int .u8 0, .int .u8 0, .int .u8 0, .int .u8 0, .int .u8 0] 103)).setRow w2.heap.size (ivs .u8 V))) := Lib.hid (below_setRow ((Below.refl _ _).alloc (Nat.le_refl _) _) (Nat.le_refl _) _); have HO3 := Lib.hid (own_below (own_below HO.out hb2 (Nat.le_refl _)) HS2.out (Nat.le_refl _)); have HR2 := Lib.hid ((Blk.newAt (w := w2) (cs := (ivs .u8 (List.replicate 16 0))) (t := 103) rfl rfl).row (ivs .u8 V)); have HN2 := Lib.hid HR2.out.news; clear hb2)
          | refine wpList_store_row rfl _ _ _ rfl w2.heap.size (ivs .u8 V) rfl rfl 103 (ivs .u8 (List.replicate 16 0)) (Blk.newAt rfl rfl) (by rw [ivs_size, HWL.out]; exact size103) (by simp [ivs_size, HWL.out]) ivs_one ?_
          | (at_builtin; refine wpList_append_own _ rfl (.tmp 23) (.tmp 24) 40 rfl w.heap.size 5 i0 _ 1 1 Try.underlying40 hi hz0 hz1 hz2 rfl (by decide) (.slice (some ⟨g, 0, none⟩) (k * 16) cc) (k * 16) _ rfl HO3.out ⟨w2.heap.size, 0, none⟩ 16 16 (V.map (.int .u8)) rfl (by rw [List.length_map, HWL.out]) HN2.out ints_one (by unfold maxLen; have := HKS.out; omega) (by have := HKS.out; omega) (by have := HS2.out.size; have := HB2.out.size; have := HB.out.size; omega) ?_; intro v' w1 hown' hgrow _; have HOWN := Lib.hid hown'; have HGR := Lib.hid hgrow; clear hown' hgrow))
        obtain ⟨A1, c1', hve, hOO⟩ := Own.of_row HOWN.out
        obtain ⟨g1, cur1, hA1, _⟩ := hOO.at_ (by omega)
        subst hve hA1
        refine ⟨⟨k + 1, by omega, by go_num, HV2, ⟨g1, c1', by rw [Nat.add_mul, Nat.one_mul]⟩, ?_, (HB.out.trans ((HB2.out.mono HB.out.size).trans (HS2.out.mono (by have := HB2.out.size; have := HB.out.size; omega)))).grown HGR.out (by have := HS2.out.size; have := HB2.out.size; have := HB.out.size; omega) (fun j e => (HO.out.lt _ e).1)⟩, by simp [intOf]; omega⟩
        rw [HS.out, List.map_append, Nat.add_mul, Nat.one_mul]
        exact HOWN.out
    · obtain rfl : k = n := by omega
      have hall : wOks l = true := wOks_yes (fun j hj => hv.out j hj (by rw [← Hl.out]; exact hj))
      rw [List.take_of_length_le (by rw [Hl.out]; exact Nat.le_refl _)] at ho
      obtain ⟨A1, c1', hve, hO⟩ := Own.of_row ho
      cases hve
      have HO := Lib.hid hO
      have HB := Lib.hid hb
      clear hv ho hO hb
      by_cases h256 : k ≤ 256
      · have e1 : wfC l = 0 := by rw [wfC, hall, Hl.out, if_pos rfl, if_pos h256]
        have e2 : wfF l = packOf 3 k (wData l) := by rw [wfF, if_pos ⟨hall, by rw [Hl.out]; exact h256⟩, Hl.out]
        have E1 := Lib.hid e1
        have E2 := Lib.hid e2
        have h256' : (k : Int) ≤ 256 := by omega
        have hpk := packFrames_any g 0 (k * 16) cc 3 k (by omega) (by omega) (by omega) (by omega) (wData l) (by rw [wData_length, Hl.out]) (by omega) HO.out.len HO.out.cap_ wr (HO.out.rd.more (Nat.le_refl _))
        have HP := Lib.hid hpk
        clear hpk hall e1 e2
        go_wp2_with (go_at_call 49; refine HP.out.mono ?_; rintro e w2 ⟨A2, c2, rfl, hO2, hb2⟩; have HO2 := Lib.hid hO2; have HB2 := Lib.hid hb2; clear hO2 hb2)
        go_ret2
        refine ⟨A2, c2, ?_, ?_, HB.out.trans (HB2.out.mono HB.out.size)⟩
        · rw [E1.out, E2.out]; rfl
        · rw [E2.out]; exact HO2.out.less HB.out.size
      · have e1 : wfC l = 3 := by rw [wfC, hall, Hl.out, if_pos rfl, if_neg h256]
        have e2 : wfF l = [] := by rw [wfF, if_neg (fun h => h256 (by rw [← Hl.out]; exact h.2))]
        have E1 := Lib.hid e1
        have E2 := Lib.hid e2
        have h256' : ¬ (k : Int) ≤ 256 := by omega
        clear hall e1 e2
        go_wp2
        go_ret2
        refine ⟨none, 0, ?_, ?_, HB.out⟩
        · rw [E1.out, E2.out]; rfl
        · rw [E2.out]; exact ⟨rfl, .inl ⟨rfl, rfl, rfl⟩⟩
end Go.Proofs.Ytmagaapdijapiaa
