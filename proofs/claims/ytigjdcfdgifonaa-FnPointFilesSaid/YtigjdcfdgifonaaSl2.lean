/- SeekPoint: the program's walk. -/
import Derived.Test.YtigjdcfdgifonaaRows
import Derived.Test.YtigjdcfdgifonaaSk
import Derived.Deep.RegionLaw
namespace Go.Proofs.Ytigjdcfdgifonaa
open Go.ChangeShapes Go.WideShapes Go.ChangeAt Go.RowKit

theorem step_append_own {P : Program} {ops : Array Oper} {o : Oper} {a : Act} {w : World} {K : Act → World → Prop} {Q : Exit → Act → World → Prop} {E : Prop}
    (hg : o.guard = none) (s x : Operand) (t : TypeId) (hop : o.op = Op.call { callee := Callee.builtin Builtin.append, args := #[s, x], argTypes := #[t, t] })
    (base : Nat) (e : TypeId) (i : TypeInfo) (z : Value) (size bytes : Nat) (h1 : P.underlying t = some (.slice e)) (h2 : P.info? e = some i) (h3 : i.zero = some z) (h4 : i.size = size) (h5 : i.bytes = bytes) (h6 : z.cells.size = size) (h7 : 0 < size)
    (v : Value) (k : Nat) (xs : List Value) (hs : a.eval s = v) (hown : w.ownsRow base e size v k xs) (ad : Addr) (m c : Nat) (news : List Value) (hx : a.eval x = .slice (some ad) m c) (hn : news.length = m * size)
    (hc : ∀ j u, news[j]? = some u → w.cell? (ad.add j) = some u) (h1c : ∀ u ∈ news, u.oneCell' = true) (b1 : k + m ≤ maxLen) (b2 : (k + m) * bytes ≤ 140737488355328) (b3 : base ≤ w.heap.size)
    (hK : ∀ v' w', w'.ownsRow base e size v' (k + m) (xs ++ news) → w.grownBy w' v.ownBlock → K (a.put o.dst v') w') :
    if Region.wanted o (yielded ops a.tmps) = true then Oper.wp P o a w K Q else E := by
  have hw : Region.wanted o (yielded ops a.tmps) = true := by simp [Region.wanted, hg]
  rw [if_pos hw]
  subst hs
  obtain ⟨v', w', hrun, r1, r2, _⟩ := run_append_own (P := P) w base t o.type e i z size bytes h1 h2 h3 h4 h5 h6 h7 _ k xs hown ad m c news hn hc h1c b1 b2 b3
  unfold Oper.wp
  simp [execOp, hop, resolve, invoke, builtin, hx, hrun, Result.andThen]
  exact hK v' w' r1 r2
theorem own_apart {W W' : World} {base base2 : Nat} {e1 e2 : TypeId} {s1 s2 : Nat} {v1 v2 : Value} {k1 k2 : Nat} {xs1 xs2 : List Value} (h1 : W.ownsRow base e1 s1 v1 k1 xs1) (h2 : W.ownsRow base2 e2 s2 v2 k2 xs2) (he : e1 ≠ e2) (hg : W.grownBy W' v1.ownBlock) : W'.ownsRow base2 e2 s2 v2 k2 xs2 := by
  refine h2.kept hg ?_
  rcases h2.2 with ⟨rfl, _⟩ | ⟨g2, cap2, cur2, rfl, _, hb2, _⟩
  · exact .inl rfl
  · refine .inr fun e' => ?_
    rcases h1.2 with ⟨rfl, _⟩ | ⟨g1, cap1, cur1, rfl, _, hb1, _⟩
    · simp [Value.ownBlock] at e'
    · have : g2 = g1 := by simpa [Value.ownBlock] using e'
      subst this
      rw [hb1] at hb2
      cases hb2
      exact he rfl
theorem addr_add2 (b o j : Nat) : (⟨b, o, none⟩ : Addr).add j = ⟨b, o + j, none⟩ := by unfold Addr.add; split <;> simp_all
section
attribute [local go_sem ↓] exec_ldF exec_loadKey
attribute [local go_sem] run_ldF run_ldKey
set_option maxRecDepth 20000 in
set_option maxHeartbeats 6400000 in
theorem iSeekPoint_any (A : Option Addr) (n c : Nat) (l : List (List Int)) (k : Int) (hl : l.length = n) (hrow : Rows_ 16 l) (h255 : ∀ f ∈ l, is255 f) (hn : n ≤ 1048576) (w : World) (hR : Rd w w.heap.size 16 A n (l.flatten.map (.int .u8))) :
    Calls Try.prog 23 #[.slice A n c, .int .i64 k] w (GivesSeek (skRe l k) (skIm l k) (skP l k) (skCode l k) w) := by
  have hc : skCode l k = if 700 < n then 3 else if l = [] then 5 else if soundB 0 (opHead l) then
    (if skHead (opHead l) then (if inB k 0 (numAt (opHead l) 4 - 1) then
      (if skLast k.toNat < n then (if skSound l (skPs k.toNat) then (if fkOk (skK l k.toNat) then 0 else 5) else 8) else 5)
    else 2) else 5) else 8 := by rw [skCode, hl]
  by_cases h7 : 700 < n
  · rw [if_pos h7] at hc
    obtain ⟨e1, e2, e3⟩ := skNone hc (by decide)
    rw [e1, e2, e3, hc]
    clear hl hrow hR hc e1 e2 e3 h255
    go_enter Try.func23, Try.ntmps23
    go_wp2
    go_ret3
    exact GivesSeek.nil 3 (Below.refl _ _)
  rw [if_neg h7] at hc
  by_cases h0 : l = []
  · rw [if_pos h0] at hc
    obtain ⟨e1, e2, e3⟩ := skNone hc (by decide)
    rw [e1, e2, e3, hc]
    have : n = 0 := by rw [← hl, h0]; rfl
    subst this
    clear hl hrow hR hc e1 e2 e3 h255
    go_enter Try.func23, Try.ntmps23
    go_wp2
    go_ret3
    exact GivesSeek.nil 5 (Below.refl _ _)
  rw [if_neg h0] at hc
  have hn1 : 0 < l.length := by
    cases l with
    | nil => exact absurd rfl h0
    | cons => simp
  have hn0 : 0 < n := by omega
  have hnI : (0 : Int) < n := by omega
  have hnI0 : ¬ (n : Int) = 0 := by omega
  obtain ⟨b, o, rfl, hbB, hcc⟩ := hR.at_ (by omega)
  have hF0 : l[0] = opHead l := opHead_eq hn1
  have hFl : (opHead l).length = 16 := by rw [← hF0]; exact hrow.at_ hn1
  have hFw : is255 (opHead l) := by rw [← hF0]; exact h255 _ (List.getElem_mem hn1)
  have hq := fun (W : World) (hW : Below w.heap.size w W) => rowAt_rd (W := W) (b := b) (o := o) (k0 := .u8) (fl := l) (fun j u hu => (hW.cell (p := ⟨b, o + j, none⟩) hbB).trans (hcc j u hu)) hrow hn1
  rw [hF0, Nat.zero_mul, Nat.add_zero] at hq
  have HQ := Lib.hid hq
  have hs := fun W => isSound_any (opHead l) hFl 0 W
  have hh := fun W => headOf_any (opHead l) hFl hFw W
  have q1 := (HQ.out w (Below.refl _ _)).1
  have q2 := (HQ.out w (Below.refl _ _)).2
  cases hsd : soundB 0 (opHead l)
  · rw [hsd, if_neg (by decide)] at hc
    obtain ⟨e1, e2, e3⟩ := skNone hc (by decide)
    rw [e1, e2, e3, hc]
    rw [hsd] at hs
    have HS := Lib.hid hs
    clear hl hrow hR hc e1 e2 e3 h255 hcc hF0 hFl hFw hq hs hh hsd h0 hn1
    generalize opHead l = H at *
    go_enter Try.func23, Try.ntmps23
    go_wp2_with (go_at_call 55; refine (HS.out _).mono ?_; rintro e w1 ⟨rfl, hb1⟩; have HB1 := Lib.hid hb1; clear hb1)
    go_ret3
    exact GivesSeek.nil 8 HB1.out
  rw [hsd, if_pos rfl] at hc
  rw [hsd] at hs
  have HS := Lib.hid hs
  have hR4 := numAt_range hFw 4
  have hR8 := numAt_range hFw 8
  have hhd : skHead (opHead l) = (hdOk (opHead l) && ((hdKind (opHead l) == 1) && (numAt (opHead l) 8 == 8 * numAt (opHead l) 4))) := rfl
  have HH := Lib.hid hh
  have HHD := Lib.hid hhd
  clear hs hh hsd hhd hq q1 q2
  cases hsk : skHead (opHead l)
  · rw [hsk, if_neg (by decide)] at hc
    have hhd := HHD.out
    rw [hsk] at hhd
    obtain ⟨e1, e2, e3⟩ := skNone hc (by decide)
    rw [e1, e2, e3, hc]
    have hcs : hdOk (opHead l) = false ∨ (hdOk (opHead l) = true ∧ ((¬ hdKind (opHead l) = 1) ∨ (hdKind (opHead l) = 1 ∧ ¬ numAt (opHead l) 8 = 8 * numAt (opHead l) 4))) := by
      cases h1 : hdOk (opHead l)
      · exact .inl rfl
      · refine .inr ⟨rfl, ?_⟩
        by_cases h2 : hdKind (opHead l) = 1
        · refine .inr ⟨h2, fun h3 => ?_⟩
          rw [h1, h2, h3] at hhd
          simp at hhd
        · exact .inl h2
    have hh := HH.out
    have p4 := hR4.1
    have p4' := hR4.2
    have p8 := hR8.1
    have p8' := hR8.2
    clear hl hrow hR hc e1 e2 e3 h255 hcc hF0 hFl hFw h0 hn1 hhd HHD hsk HH hR4 hR8
    generalize hdOk (opHead l) = OK at *
    generalize hdKind (opHead l) = K at *
    generalize numAt (opHead l) 4 = M at *
    generalize numAt (opHead l) 8 = S at *
    generalize opHead l = H at *
    rcases hcs with rfl | ⟨rfl, hk | ⟨rfl, hk⟩⟩
    all_goals
      have HH := Lib.hid hh
      clear hh
      have q1 := (HQ.out w (Below.refl _ _)).1
      have q2 := (HQ.out w (Below.refl _ _)).2
      go_enter Try.func23, Try.ntmps23
      go_wp2_with (first
        | (go_at_call 55; refine (HS.out _).mono ?_; rintro e w1 ⟨rfl, hb1⟩; have HB1 := Lib.hid hb1; have q1' := (HQ.out w1 HB1.out).1; have q2' := (HQ.out w1 HB1.out).2; clear hb1)
        | (go_at_call 56; refine (HH.out _).mono ?_; rintro e w2 ⟨rfl, hb2⟩; have HB2 := Lib.hid hb2; clear hb2))
      go_ret3
      exact GivesSeek.nil 5 (HB1.out.trans (HB2.out.mono HB1.out.size))
  rw [hsk, if_pos rfl] at hc
  have hhd := HHD.out
  rw [hsk, Bool.true_eq, Bool.and_eq_true, Bool.and_eq_true, beq_iff_eq, beq_iff_eq] at hhd
  obtain ⟨g1, g2, g3⟩ := hhd
  have hh := HH.out
  rw [g1, g2, g3] at hh
  have p4 := hR4.1
  have p4' := hR4.2
  have hin := fun W => inRange_any k 0 (numAt (opHead l) 4 - 1) W
  have hir : inB k 0 (numAt (opHead l) 4 - 1) = true → 0 ≤ k ∧ k ≤ numAt (opHead l) 4 - 1 := fun h => by
    unfold inB at h
    simpa using h
  clear HH hR4 hR8 HHD hsk g1 g2 g3
  cases hi : inB k 0 (numAt (opHead l) 4 - 1)
  · rw [hi, if_neg (by decide)] at hc
    rw [hi] at hin
    obtain ⟨e1, e2, e3⟩ := skNone hc (by decide)
    rw [e1, e2, e3, hc]
    clear hl hrow hR hc e1 e2 e3 h255 hcc hF0 hFl hFw h0 hn1 hi hir
    generalize numAt (opHead l) 4 = M at *
    generalize opHead l = H at *
    have HH := Lib.hid hh
    have HIN := Lib.hid hin
    clear hh hin
    have q1 := (HQ.out w (Below.refl _ _)).1
    have q2 := (HQ.out w (Below.refl _ _)).2
    go_enter Try.func23, Try.ntmps23
    go_wp2_with (first
      | (go_at_call 55; refine (HS.out _).mono ?_; rintro e w1 ⟨rfl, hb1⟩; have HB1 := Lib.hid hb1; have q1' := (HQ.out w1 HB1.out).1; have q2' := (HQ.out w1 HB1.out).2; clear hb1)
      | (go_at_call 56; refine (HH.out _).mono ?_; rintro e w2 ⟨rfl, hb2⟩; have HB2 := Lib.hid hb2; clear hb2)
      | (go_at_call 57; refine (HIN.out _).mono ?_; rintro e w3 ⟨rfl, rfl⟩))
    go_ret3
    exact GivesSeek.nil 2 (HB1.out.trans (HB2.out.mono HB1.out.size))
  rw [hi, if_pos rfl] at hc
  rw [hi] at hin
  obtain ⟨k0, k1⟩ := hir hi
  obtain ⟨kk, rfl⟩ : ∃ kk : Nat, k = (kk : Int) := ⟨k.toNat, by omega⟩
  rw [Int.toNat_natCast] at hc
  have hre : skRe l kk = if skCode l kk = 0 then pRe (skK l kk) else 0 := rfl
  have him : skIm l kk = if skCode l kk = 0 then pIm (skK l kk) else 0 := rfl
  have hpl : skP l kk = if skCode l kk = 0 then (skPs kk).map fun p => ((p : Nat) : Int) else [] := rfl
  have hfI : ((skFirst kk : Nat) : Int) = 1 + 8 * (kk : Int) / 12 := by unfold skFirst; omega
  have hlI : ((skLast kk : Nat) : Int) = 1 + (8 * (kk : Int) + 7) / 12 := by unfold skLast; omega
  have hf1 : 1 ≤ skFirst kk := by unfold skFirst; omega
  have hps : skPs kk = if skLast kk = skFirst kk then [skFirst kk] else [skFirst kk, skLast kk] := rfl
  have hx12 : 8 * kk % 12 + 8 ≤ 12 * (skPs kk).length := by
    rw [hps]
    unfold skLast skFirst
    split
    · simp; omega
    · simp; omega
  obtain ⟨x, hx⟩ : ∃ x, x = 8 * kk % 12 := ⟨_, rfl⟩
  have hxI : 8 * (kk : Int) - 12 * (8 * (kk : Int) / 12) = (x : Int) := by omega
  have hxN : x = 8 * kk - 12 * (8 * kk / 12) := by omega
  have hKK : skK l kk = ((skD l (skPs kk)).drop x).take 8 := by rw [skK, hx]
  rw [← hx] at hx12
  have hpn : skLast kk < n → ∀ p ∈ skPs kk, p < n := fun h p hp => by
    have : skFirst kk ≤ skLast kk := by unfold skLast skFirst; omega
    rw [hps] at hp
    split at hp <;> simp at hp <;> omega
  have hcase : (skLast kk = skFirst kk ∧ skPs kk = [skFirst kk]) ∨ (skLast kk = skFirst kk + 1 ∧ skPs kk = [skFirst kk, skLast kk]) := by
    rw [hps]
    by_cases h : skLast kk = skFirst kk
    · exact .inl ⟨h, if_pos h⟩
    · exact .inr ⟨by unfold skLast skFirst at *; omega, if_neg h⟩
  obtain ⟨i0, hi0, hz0, hz1, hz2⟩ := info_parts Int64_info
  obtain ⟨i1, hi1, hy0, hy1, hy2⟩ := info_parts Byte_info
  clear hir hi hx hps
  generalize numAt (opHead l) 4 = M at *
  generalize opHead l = H at *
  generalize skFirst kk = f at *
  generalize skLast kk = la at *
  generalize skPs kk = ps at *
  have HH := Lib.hid hh
  have HIN := Lib.hid hin
  have q1 := (HQ.out w (Below.refl _ _)).1
  have q2 := (HQ.out w (Below.refl _ _)).2
  have hne : (la = f → 1 + (8 * (kk : Int) + 7) / 12 = 1 + 8 * (kk : Int) / 12) ∧ (¬ la = f → ¬ 1 + (8 * (kk : Int) + 7) / 12 = 1 + 8 * (kk : Int) / 12) := ⟨fun e => by omega, fun e e' => e (by omega)⟩
  have HNE := Lib.hid hne
  have HC := Lib.hid hc
  have HRE := Lib.hid hre
  have HIM := Lib.hid him
  have HPL := Lib.hid hpl
  have HF := Lib.hid hfI
  have HLA := Lib.hid hlI
  have HKK := Lib.hid hKK
  have HXN := Lib.hid hxN
  have HR := Lib.hid hR
  have HCC := Lib.hid hcc
  have HROW := Lib.hid hrow
  have Hl := Lib.hid hl
  have H255 := Lib.hid h255
  have HPN := Lib.hid hpn
  have HXI := Lib.hid hxI
  have HX12 := Lib.hid hx12
  have HFL := Lib.hid hFl
  clear hh hin hne hc hre him hpl hKK hR hcc hrow hl h255 hpn hF0 hFw h0 hn1 hfI hlI hxI hx12 hFl hxN
  have hkI : 8 * (kk : Int) ≤ 34359738360 := by omega
  obtain ⟨m, hm, hm1, hm2, hlam, hpsq⟩ : ∃ m, ps.length = m ∧ 1 ≤ m ∧ m ≤ 2 ∧ la + 1 = f + m ∧ ∀ q (hq : q < ps.length), ps[q] = f + q := by
    rcases hcase with ⟨rfl, rfl⟩ | ⟨rfl, rfl⟩
    · refine ⟨1, rfl, by omega, by omega, rfl, fun q hq => ?_⟩
      have : q = 0 := by simp at hq; omega
      subst this; rfl
    · refine ⟨2, rfl, by omega, by omega, by omega, fun q hq => ?_⟩
      have : q = 0 ∨ q = 1 := by simp at hq; omega
      rcases this with rfl | rfl <;> rfl
  have HPSQ := Lib.hid hpsq
  have HMM := Lib.hid hm
  clear hcase hpsq hm HNE
  have hl2 : (1 : Int) + (8 * (kk : Int) + 7) / 12 = (la : Int) := HLA.out.symm
  have hl1 : (1 : Int) + 8 * (kk : Int) / 12 = (f : Int) := HF.out.symm
  by_cases hL : la < n
  · have hc1 := HC.out
    rw [if_pos hL] at hc1
    have HC1 := Lib.hid hc1
    have hLI : (la : Int) < n := by omega
    have hLN : ¬ n ≤ la := by omega
    clear hc1
    go_enter Try.func23, Try.ntmps23
    go_wp2_with (first
      | (go_at_call 55; refine (HS.out _).mono ?_; rintro e w1 ⟨rfl, hb1⟩; have HB1 := Lib.hid hb1; have q1' := (HQ.out w1 HB1.out).1; have q2' := (HQ.out w1 HB1.out).2; clear hb1)
      | (go_at_call 56; refine (HH.out _).mono ?_; rintro e w2 ⟨rfl, hb2⟩; have HB2 := Lib.hid hb2; clear hb2)
      | (go_at_call 57; refine (HIN.out _).mono ?_; rintro e w3 ⟨rfl, rfl⟩))
    have hB2 : Below w.heap.size w w2 := HB1.out.trans (HB2.out.mono HB1.out.size)
    have z2 := hB2.size
    have hP0 : ((w2.alloc (.cells #[] 2)).alloc (.cells #[] 5)).ownsRow w.heap.size 2 1 (.slice (some ⟨w2.heap.size, 0, none⟩) 0 0) 0 (((ps.take 0).map fun p => ((p : Nat) : Int)).map (.int .i64)) := (World.ownsRow_lit (e := 2) (base := w.heap.size) (size := 1) w2 #[] 0 z2 (by unfold maxLen; omega) rfl).alloc _
    have hD0 : ((w2.alloc (.cells #[] 2)).alloc (.cells #[] 5)).ownsRow w.heap.size 5 1 (.slice (some ⟨w2.heap.size + 1, 0, none⟩) 0 0) 0 ((skD l (ps.take 0)).map (.int .u8)) := by
      have := World.ownsRow_lit (e := 5) (base := w.heap.size) (size := 1) (w2.alloc (.cells #[] 2)) #[] 0 (by rw [size_alloc]; omega) (by unfold maxLen; omega) rfl
      rw [size_alloc] at this
      exact this
    have hBB0 : Below w.heap.size w ((w2.alloc (.cells #[] 2)).alloc (.cells #[] 5)) := (hB2.alloc z2 _).alloc (by rw [size_alloc]; omega) _
    have hf0 : (f : Int) = ((f + 0 : Nat) : Int) := rfl
    go_loopw [13, 14, 15] (fun v d a wr => ∃ q : Nat, q ≤ m ∧ a = .int .i64 ((f + q : Nat) : Int) ∧ (∃ g cc, v = .slice (some ⟨g, 0, none⟩) q cc) ∧ (∃ g cc, d = .slice (some ⟨g, 0, none⟩) (12 * q) cc) ∧ wr.ownsRow w.heap.size 2 1 v q (((ps.take q).map fun p => ((p : Nat) : Int)).map (.int .i64)) ∧ wr.ownsRow w.heap.size 5 1 d (12 * q) ((skD l (ps.take q)).map (.int .u8)) ∧ Hid (skSound l (ps.take q) = true) ∧ Below w.heap.size w wr) (fun _ _ a _ => m + f - (intOf a).toNat)
    case atStart => exact ⟨0, by omega, rfl, ⟨_, _, rfl⟩, ⟨_, _, rfl⟩, hP0, hD0, Lib.hid rfl, hBB0⟩
    case round =>
      clear hP0 hD0 hBB0 hf0
      obtain ⟨q, hq, rfl, ⟨gv, cv, rfl⟩, ⟨g, cc, rfl⟩, hov, ho, hsn, hb⟩ := hrel
      by_cases hlt : q < m
      · have hpq : q < ps.length := by rw [HMM.out]; exact hlt
        obtain ⟨p, hp⟩ : ∃ p, p = ps[q]'hpq := ⟨_, rfl⟩
        have hpn : p < n := HPN.out hL p (by rw [hp]; exact List.getElem_mem _)
        have hpf : p = f + q := by rw [hp]; exact HPSQ.out q hpq
        have hpl : p < l.length := by rw [Hl.out]; exact hpn
        have hrp := skRow_at hpl
        have hFp : (skRow l p).length = 16 := by rw [hrp]; exact HROW.out.at_ hpl
        have hBr : Below w.heap.size w wr := hb
        have hbz := hb.size
        have hqq := fun (W : World) (hW : Below w.heap.size w W) => rowAt_rd (W := W) (b := b) (o := o) (k0 := .u8) (fl := l) (fun j u hu => (hW.cell (p := ⟨b, o + j, none⟩) hbB).trans (HCC.out j u hu)) HROW.out hpl
        rw [← hrp] at hqq
        have hsd := fun W => isSound_any (skRow l p) hFp p W
        have hsn2 : skSound l (ps.take (q + 1)) = soundB p (skRow l p) := by
          rw [List.take_succ_eq_append_getElem hpq, skSound, List.all_append, ← hp]
          have := hsn.out
          rw [skSound] at this
          rw [this]; simp
        have hdn2 : skD l (ps.take (q + 1)) = skD l (ps.take q) ++ (skRow l p).take 12 := by
          rw [List.take_succ_eq_append_getElem hpq, skD, List.map_append, List.flatten_append, ← hp]
          simp [skD]
        have hall : soundB p (skRow l p) = false → skSound l ps = false := fun h => by
          rw [skSound, List.all_eq_false]
          exact ⟨p, by rw [hp]; exact List.getElem_mem _, by rw [h]; decide⟩
        have hcr : ∀ j, j < 12 → w.cell? ⟨b, o + (p * 16 + j), none⟩ = some (.int .u8 ((skRow l p).getD j 0)) := fun j hj => by
          refine HCC.out _ _ ?_
          have : l.flatten[p * 16 + j]? = (skRow l p)[j]? := by
            have h1 := flat_row HROW.out hpl
            rw [← hrp] at h1
            rw [← h1, List.getElem?_take, if_pos (by omega), List.getElem?_drop]
          rw [List.getElem?_map, this, List.getD_eq_getElem?_getD, List.getElem?_eq_getElem (by omega)]
          rfl
        obtain ⟨r1, r2⟩ := hqq wr hBr
        have HDN := Lib.hid hdn2
        have HSN := Lib.hid hsn2
        have HCR := Lib.hid hcr
        have HSD := Lib.hid hsd
        have HAL := Lib.hid hall
        have HO := Lib.hid ho
        have HBw := Lib.hid hb
        have HBR := Lib.hid hBr
        have HQQ := Lib.hid hqq
        have HFP := Lib.hid hFp
        have hpI : (p : Int) < n := by omega
        have hqI : (q : Int) < m := by omega
        have hqf : (f : Int) + q ≤ la := by omega
        have HOV := Lib.hid hov
        have hfq : ((f + q : Nat) : Int) = (f : Int) + q := by omega
        subst hpf
        have hnb : ∀ W : World, Below w.heap.size w W → ∀ j u, (((skRow l (f + q)).take 12).map (Value.int .u8))[j]? = some u → W.cell? ((⟨b, o + (f + q) * 16, none⟩ : Addr).add j) = some u := fun W hW j u hu => by
          have hj : j < 12 := by
            rcases Nat.lt_or_ge j 12 with h | h
            · exact h
            · rw [List.getElem?_eq_none (by rw [List.length_map, List.length_take]; omega)] at hu; cases hu
          have hh := hcr j hj
          rw [← (bcell hW).1 b _ hbB] at hh
          rw [addr_add2, show o + (f + q) * 16 + j = o + ((f + q) * 16 + j) by omega, hh, ← hu, List.getElem?_map, List.getElem?_take, if_pos hj, List.getElem?_eq_getElem (by rw [hFp]; omega), List.getD_eq_getElem?_getD, List.getElem?_eq_getElem (by rw [hFp]; omega)]
          rfl
        have HNB := Lib.hid hnb
        clear hnb hov hdn2 hsn2 hcr hsd hall ho hb hBr hqq hFp hrp hp hsn hlt hpq hpl
        cases hsp : soundB ((f + q : Nat) : Int) (skRow l (f + q))
        · have hsd2 := HSD.out
          rw [hsp] at hsd2
          have hc2 := HC1.out
          rw [HAL.out hsp] at hc2
          have hc3 : skCode l kk = 8 := hc2
          have HSD2 := Lib.hid hsd2
          have HC3 := Lib.hid hc3
          clear hsd2 hc2 hc3 hsp
          go_wp2_with (go_at_call 55; refine (HSD2.out _).mono ?_; rintro e w5 ⟨rfl, hb5⟩; have HB5 := Lib.hid hb5; clear hb5)
          go_ret3
          obtain ⟨e1', e2', e3'⟩ := skNone HC3.out (by decide)
          rw [e1', e2', e3', HC3.out]
          exact GivesSeek.nil 8 (HBR.out.trans (HB5.out.mono HBR.out.size))
        · have hsd2 := HSD.out
          rw [hsp] at hsd2
          have HSD2 := Lib.hid hsd2
          have hsn3 := HSN.out
          rw [hsp] at hsn3
          have HSN3 := Lib.hid hsn3
          clear hsd2 hsp hsn3
          go_wp2_with (go_at_call 55; refine (HSD2.out _).mono ?_; rintro e w5 ⟨rfl, hb5⟩; have FP := Lib.hid (own_below HOV.out hb5 (Nat.le_refl _)); have FD := Lib.hid (own_below HO.out hb5 (Nat.le_refl _)); have FB := Lib.hid (HBR.out.trans (hb5.mono HBR.out.size)); clear hb5)
          have hNI : ∀ (W : World) (v : Int), ∀ j u, ([Value.int .i64 v])[j]? = some u → (W.alloc (.cells #[.int .i64 v] 2)).cell? ((⟨W.heap.size, 0, none⟩ : Addr).add j) = some u := fun W v => (Blk.newAt (cs := ivs .i64 [v]) (t := 2) (w := W) rfl rfl).news
          have hN5 : ∀ j u, ([Value.int .i64 ((f : Int) + q)])[j]? = some u → (w5.alloc (.cells #[.int .i64 ((f : Int) + q)] 2)).drew.cell? ((⟨w5.heap.size, 0, none⟩ : Addr).add j) = some u := fun j u hu => hNI w5 _ j u hu
          have hP5 : (w5.alloc (.cells #[.int .i64 ((f : Int) + q)] 2)).drew.ownsRow w.heap.size 2 1 (.slice (some ⟨gv, 0, none⟩) q cv) q (((ps.take q).map fun p => ((p : Nat) : Int)).map (.int .i64)) := FP.out.alloc _
          have hD5 : (w5.alloc (.cells #[.int .i64 ((f : Int) + q)] 2)).drew.ownsRow w.heap.size 5 1 (.slice (some ⟨g, 0, none⟩) (12 * q) cc) (12 * q) ((skD l (ps.take q)).map (.int .u8)) := FD.out.alloc _
          have hB5 : Below w.heap.size w (w5.alloc (.cells #[.int .i64 ((f : Int) + q)] 2)).drew := below_drew (FB.out.alloc FB.out.size _)
          have HN5 := Lib.hid hN5
          have HP5 := Lib.hid hP5
          have HD5 := Lib.hid hD5
          have HB5 := Lib.hid hB5
          clear hN5 hP5 hD5 hB5 hNI
          have hI0 : (0 : Int) ≤ (f : Int) + q := by omega
          have hI1 : (f : Int) + q < (n : Int) := by omega
          have hI2 : ((f : Int) + q).toNat = f + q := by omega
          go_region_law (first
            | (refine step_append_own rfl (.tmp 89) (.tmp 91) 40 rfl w.heap.size 2 i0 _ 1 8 Try.underlying40 hi0 hz0 hz1 hz2 rfl (by decide) (.slice (some ⟨gv, 0, none⟩) q cv) q _ (by simp [Act.eval]) HP5.out ⟨w5.heap.size, 0, none⟩ 1 1 [.int .i64 ((f : Int) + q)] (by simp [Act.eval]) rfl HN5.out (by simp [Value.oneCell']) (by unfold maxLen; omega) (by omega) HB5.out.size ?_; intro v6 w6 hown6 hgrow6; have F6 : Hid (w6.ownsRow w.heap.size 2 1 v6 (q + 1) (((ps.take q).map fun p => ((p : Nat) : Int)).map (.int .i64) ++ [.int .i64 ((f : Int) + q)]) ∧ w6.ownsRow w.heap.size 5 1 (.slice (some ⟨g, 0, none⟩) (12 * q) cc) (12 * q) ((skD l (ps.take q)).map (.int .u8)) ∧ Below w.heap.size w w6) := Lib.hid ⟨hown6, own_apart HP5.out HD5.out (by decide) hgrow6, HB5.out.grown hgrow6 HB5.out.size (fun j e => (HP5.out.lt _ e).1)⟩; clear hown6 hgrow6)
            | (refine step_append_own rfl (.tmp 93) (.tmp 97) 52 rfl w.heap.size 5 i1 _ 1 1 Try.underlying52 hi1 hy0 hy1 hy2 rfl (by decide) (.slice (some ⟨g, 0, none⟩) (12 * q) cc) (12 * q) _ (by simp [Act.eval]) F6.out.2.1 ⟨b, o + (f + q) * 16, none⟩ 12 16 (((skRow l (f + q)).take 12).map (.int .u8)) (by simp [Act.eval]) (by rw [List.length_map, List.length_take, HFP.out]; rfl) (HNB.out _ F6.out.2.2) ints_one (by unfold maxLen; omega) (by omega) F6.out.2.2.size ?_; intro v7 w7 hown7 hgrow7; have F7 : Hid (w7.ownsRow w.heap.size 2 1 v6 (q + 1) (((ps.take q).map fun p => ((p : Nat) : Int)).map (.int .i64) ++ [.int .i64 ((f : Int) + q)]) ∧ w7.ownsRow w.heap.size 5 1 v7 (12 * q + 12) ((skD l (ps.take q)).map (.int .u8) ++ ((skRow l (f + q)).take 12).map (.int .u8)) ∧ Below w.heap.size w w7) := Lib.hid ⟨own_apart F6.out.2.1 F6.out.1 (by decide) hgrow7, hown7, F6.out.2.2.grown hgrow7 F6.out.2.2.size (fun j e => (F6.out.2.1.lt _ e).1)⟩; clear hown7 hgrow7)
            | fail)
          obtain ⟨A6, c6, hv6, hO6⟩ := Own.of_row F7.out.1
          obtain ⟨g6, cur6, hA6, _⟩ := hO6.at_ (by omega)
          obtain ⟨A7, c7, hv7, hO7⟩ := Own.of_row F7.out.2.1
          obtain ⟨g7, cur7, hA7, _⟩ := hO7.at_ (by omega)
          subst hv6 hA6 hv7 hA7
          clear hO6 hO7
          go_wp2
          refine ⟨⟨q + 1, by omega, by go_num, ⟨g6, c6, rfl⟩, ⟨g7, c7, rfl⟩, ?_, ?_, Lib.hid HSN3.out, F7.out.2.2⟩, by simp [intOf]; omega⟩
          · rw [List.take_succ_eq_append_getElem (by rw [HMM.out]; omega), List.map_append, List.map_append, HPSQ.out q (by rw [HMM.out]; omega)]
            have h1 := F7.out.1
            rw [show ((f : Int) + q) = ((f + q : Nat) : Int) by omega] at h1
            exact h1
          · rw [HDN.out, List.map_append]
            exact F7.out.2.1
      · obtain rfl : q = m := by omega
        rw [List.take_of_length_le (by rw [HMM.out]; exact Nat.le_refl _)] at ho hsn hov
        have hK8 : (skD l ps).length = 12 * q := by have := ho.1; simpa using this
        have hx12 := HX12.out
        have hxN := HXN.out
        rw [HMM.out] at hx12
        have hK255 : is255 (skD l ps) := fun y hy => by
          rw [skD, List.mem_flatten] at hy
          obtain ⟨m, hm, hy⟩ := hy
          rw [List.mem_map] at hm
          obtain ⟨p, hp, rfl⟩ := hm
          rw [skRow_at (by rw [Hl.out]; exact HPN.out hL p hp)] at hy
          exact H255.out _ (List.getElem_mem _) y (List.mem_of_mem_take hy)
        have hSl : (skK l kk).length = 8 := by rw [HKK.out, List.length_take, List.length_drop, hK8]; omega
        have hS255 : is255 (skK l kk) := fun y hy => by rw [HKK.out] at hy; exact hK255 y (List.mem_of_mem_drop (List.mem_of_mem_take hy))
        have hrg : wr.rangeAt g x ((skK l kk).map (.int .u8)) := by
          obtain ⟨g', o', hA, hgB, hcc⟩ := (Rd.of_own ho).at_ (by omega)
          cases hA
          have := Rd.rangeAt (i := x) (s := 8) hcc
          rw [Nat.zero_add, ← List.map_drop, ← List.map_take, ← HKK.out] at this
          exact this
        have hqr := rowAt_range hrg
        rw [hSl] at hqr
        obtain ⟨r1, r2⟩ := hqr
        have hfk := fun W => iFromKey_any (skK l kk) hSl hS255 W
        have harr := fun (a : Option Addr) (c : Nat) (X : World) => run_arrayAt (P := Try.prog) (w := X) 73 5 8 a 8 c Try.underlying73 (by omega)
        have HFK := Lib.hid hfk
        have hcc12 : 12 * q ≤ cc := by
          rcases ho.2 with ⟨h, _⟩ | ⟨g', cap, cur, h, _, _, h5, _⟩
          · cases h
          · cases h; exact h5
        have HBR := Lib.hid hb
        have HOV := Lib.hid hov
        have hc1 := HC1.out
        rw [hsn.out, if_pos rfl] at hc1
        have HC2 := Lib.hid hc1
        have hx1 : 8 * (kk : Int) % 12 = (x : Int) := by omega
        clear ho hsn hK8 hK255 hb hc1 hq hlt hxN hov hrg hSl hS255 hfk
        have hcv : fkC (skK l kk) = if fkOk (skK l kk) then 0 else 2 := rfl
        have hvv : fkV (skK l kk) = if fkOk (skK l kk) then .complex .f32 (pRe (skK l kk)) (pIm (skK l kk)) else .complex .f32 0 0 := rfl
        cases hfk : fkOk (skK l kk)
        · have hc3 := HC2.out
          rw [hfk, if_neg (by decide)] at hc3
          rw [hfk, if_neg (by decide)] at hcv hvv
          have hp3 := HFK.out
          rw [hcv, hvv] at hp3
          have HC3 := Lib.hid hc3
          have HP3 := Lib.hid hp3
          clear hc3 hp3 hfk HFK hcv hvv
          go_wp2_with (go_at_call 47; refine (HP3.out _).mono ?_; rintro e w9 ⟨rfl, hb9⟩; have HB9 := Lib.hid hb9; clear hb9)
          go_ret3
          obtain ⟨e1', e2', e3'⟩ := skNone HC3.out (by decide)
          rw [e1', e2', e3', HC3.out]
          exact GivesSeek.nil 5 (HBR.out.trans (HB9.out.mono HBR.out.size))
        · have hc3 := HC2.out
          rw [hfk, if_pos rfl] at hc3
          rw [hfk, if_pos rfl] at hcv hvv
          have hp3 := HFK.out
          rw [hcv, hvv] at hp3
          have HC3 := Lib.hid hc3
          have HP3 := Lib.hid hp3
          clear hc3 hp3 hfk HFK hcv hvv
          go_wp2_with (go_at_call 47; refine (HP3.out _).mono ?_; rintro e w9 ⟨rfl, hb9⟩; have HB9 := Lib.hid hb9; clear hb9)
          go_ret3
          have q1' := HRE.out
          have q2' := HIM.out
          have q3' := HPL.out
          rw [if_pos HC3.out] at q1' q2' q3'
          rw [q1', q2', q3', HC3.out]
          have ow := own_below HOV.out HB9.out (Nat.le_refl _)
          obtain ⟨A9, c9, e9, hO9⟩ := Own.of_row ow
          cases e9
          refine ⟨some ⟨gv, 0, none⟩, cv, ?_, ?_, HBR.out.trans (HB9.out.mono HBR.out.size)⟩
          · rw [List.length_map, HMM.out]
            rfl
          · rw [List.length_map, HMM.out]
            exact hO9
  · have hc1 := HC.out
    rw [if_neg hL] at hc1
    obtain ⟨e1', e2', e3'⟩ := skNone hc1 (by decide)
    rw [e1', e2', e3', hc1]
    have hLI : (n : Int) ≤ la := by omega
    clear hc1 e1' e2' e3'
    go_enter Try.func23, Try.ntmps23
    go_wp2_with (first
      | (go_at_call 55; refine (HS.out _).mono ?_; rintro e w1 ⟨rfl, hb1⟩; have HB1 := Lib.hid hb1; have q1' := (HQ.out w1 HB1.out).1; have q2' := (HQ.out w1 HB1.out).2; clear hb1)
      | (go_at_call 56; refine (HH.out _).mono ?_; rintro e w2 ⟨rfl, hb2⟩; have HB2 := Lib.hid hb2; clear hb2)
      | (go_at_call 57; refine (HIN.out _).mono ?_; rintro e w3 ⟨rfl, rfl⟩))
    go_ret3
    exact GivesSeek.nil 5 (HB1.out.trans (HB2.out.mono HB1.out.size))
end
end Go.Proofs.Ytigjdcfdgifonaa
