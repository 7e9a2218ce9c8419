/- Arguments opened and shut again: rows of integers by value, slices of rows, plain slices. No program in sight. -/
import Derived.Test.YtfjfiljgbkhblaaDoorBase
import Derived.Test.YtfjfiljgbkhblaaDoorSl
import Derived.OpenShut
import Derived.Deep.Slices
import Derived.ChangeAlike
namespace Go.Proofs.YtfjfiljgbkhblaaDoor
open Go.ChangeShapes Go.WideShapes Go.ChangeAt Go.RowKit Go.Deep
section
variable {H : Type} {enc : TypeId × Value → H} {P : Program} {w : World} {base : Nat} {spare : Nat → Bool} {held : Bool}

/-- integers as data -/
def ids (H : Type) (k : IntKind) (l : List Int) : List (DataW H) := l.map fun x => .lit (.int k x)
def wfs (k : IntKind) (l : List Int) : Prop := ∀ x ∈ l, (Lit.int k x).wf = true

theorem drop_take_one {α : Type} {l : List α} {i : Nat} (h : i < l.length) : (l.drop i).take 1 = [l[i]] := by
  rw [List.drop_eq_getElem_cons h]; rfl

theorem trod_arr {t e : TypeId} {n fuel : Nat} {k : IntKind} {cs : List Value} {x : DataW H × List MemPlace} (ht : P.underlying t = some (.array n e)) (he : P.underlying e = some (.int k)) (hce : P.cellsOf e = 1) (hct : P.cellsOf t = n)
    (h : DataW.trod enc P w base spare held fuel t cs = some x) :
    ∃ L : List Int, L.length = n ∧ cs = L.map (Value.int k) ∧ x = (.agg (ids H k L), []) ∧ wfs k L := by
  obtain ⟨xs, m, rfl, rfl, hlen, hxs, hg⟩ := DataW.trod_array ht h
  rw [hce] at hg
  rw [hct] at hlen
  have hi : ∀ i (hi : i < n), ∃ z : Int, cs[i]'(by omega) = .int k z ∧ xs[i]'(by omega) = (.lit (.int k z), []) ∧ (Lit.int k z).wf = true := by
    intro i hi
    have h1 := hg i hi
    rw [Nat.mul_one, drop_take_one (by omega), List.getElem?_eq_getElem (by omega)] at h1
    obtain ⟨z, hz, hx, hw⟩ := DataW.trod_int he h1
    simp only [List.cons.injEq, and_true] at hz
    exact ⟨z, hz, hx, hw⟩
  let val : Value → Int := fun v => match v with | .int _ z => z | _ => 0
  refine ⟨cs.map val, by simp [hlen], ?_, ?_, ?_⟩
  · apply List.ext_getElem (by simp)
    intro i h1 h2
    obtain ⟨z, hz, _, _⟩ := hi i (by omega)
    simp [hz, val]
  · congr 1
    · congr 1
      apply List.ext_getElem (by simp [ids]; omega)
      intro i h1 h2
      have hin : i < n := by simpa [hxs] using h1
      obtain ⟨z, hz, hx, _⟩ := hi i hin
      simp [ids, hz, hx, val]
    · apply List.flatMap_eq_nil_iff.2
      intro y hy
      obtain ⟨i, hil, rfl⟩ := List.getElem_of_mem hy
      obtain ⟨z, _, hx, _⟩ := hi i (by omega)
      simp [hx]
  · intro z hz
    obtain ⟨v, hv, rfl⟩ := List.mem_map.1 hz
    obtain ⟨i, hil, rfl⟩ := List.getElem_of_mem hv
    obtain ⟨z, hz', _, hw⟩ := hi i (by omega)
    simpa [hz', val] using hw

theorem trod_arr_mk {t e : TypeId} {n : Nat} {k : IntKind} {L : List Int} (ht : P.underlying t = some (.array n e)) (he : P.underlying e = some (.int k)) (hce : P.cellsOf e = 1) (hct : P.cellsOf t = n) (hL : L.length = n) (hw : wfs k L) (fuel : Nat) :
    DataW.trod enc P w base spare held (fuel + 2) t (L.map (Value.int k)) = some (.agg (ids H k L), []) := by
  have hm : (List.range n).mapM (fun i => DataW.trod enc P w base spare held (fuel + 1) e (((L.map (Value.int k)).drop (i * P.cellsOf e)).take (P.cellsOf e))) = some ((ids H k L).map fun d => (d, [])) := by
    rw [show (fun i => DataW.trod enc P w base spare held (fuel + 1) e (((L.map (Value.int k)).drop (i * P.cellsOf e)).take (P.cellsOf e))) = fun i => DataW.trod enc P w base spare held (fuel + 1) e (((L.map (Value.int k)).drop i).take 1) from by rw [hce]; simp]
    clear hct ht
    subst hL
    induction L with
    | nil => rfl
    | cons x L ih =>
      have ih' := ih (fun y hy => hw y (List.mem_cons_of_mem _ hy))
      rw [List.length_cons, List.range_succ_eq_map, List.mapM_cons, List.mapM_map]
      have h0 : DataW.trod enc P w base spare held (fuel + 1) e ((List.drop 0 (List.map (Value.int k) (x :: L))).take 1) = some (.lit (.int k x), []) := by
        simp [DataW.trod, he, hw x (List.mem_cons_self ..)]
      rw [h0]
      have h1 : (List.range L.length).mapM ((fun i => DataW.trod enc P w base spare held (fuel + 1) e ((List.drop i (List.map (Value.int k) (x :: L))).take 1)) ∘ Nat.succ) = some ((ids H k L).map fun d => (d, [])) := by
        rw [← ih']; rfl
      rw [h1]
      rfl
  unfold DataW.trod
  rw [ht]
  simp only [List.length_map, hL, hct, if_true, hm, Option.map_some]
  congr 2
  · congr 1; simp [Function.comp_def]
  · exact List.flatMap_eq_nil_iff.2 fun y hy => by obtain ⟨d, _, rfl⟩ := List.mem_map.1 hy; rfl

theorem open_arr {r : Reach} {b0 : Nat} {t e : TypeId} {n : Nat} {k : IntKind} {v : Value} {d : DataW H} {p : List MemPlace} (ht : P.underlying t = some (.array n e)) (he : P.underlying e = some (.int k)) (hce : P.cellsOf e = 1) (hct : P.cellsOf t = n)
    (hv : Value.okWide P w r b0 t v) (h : DataW.Trod enc P w base spare held t v d p) :
    ∃ L : List Int, L.length = n ∧ v = .agg (ivs k L) ∧ d = .agg (ids H k L) ∧ p = [] ∧ wfs k L := by
  obtain ⟨cs, rfl, _, _⟩ : ∃ cs, v = .agg cs ∧ cs.size = P.cellsOf t ∧ Row.okWide P w r b0 t cs := by simpa [Value.okWide, ht] using hv
  obtain ⟨fuel, hf⟩ := h
  obtain ⟨L, hL, hcs, hx, hw⟩ := trod_arr ht he hce hct hf
  simp only [Prod.mk.injEq] at hx
  refine ⟨L, hL, ?_, hx.1, hx.2, hw⟩
  rw [ivs, ← hcs]
  simp [Value.cells]

theorem shut_arr {t e : TypeId} {n : Nat} {k : IntKind} {L : List Int} (ht : P.underlying t = some (.array n e)) (he : P.underlying e = some (.int k)) (hce : P.cellsOf e = 1) (hct : P.cellsOf t = n) (hL : L.length = n) (hw : wfs k L) :
    DataW.Trod enc P w base spare held t (.agg (ivs k L)) (.agg (ids H k L)) [] :=
  ⟨2, by rw [Value.cells, ivs_toList]; exact trod_arr_mk ht he hce hct hL hw 0⟩

theorem addr_add (b o i : Nat) : (⟨b, o, none⟩ : Addr).add i = ⟨b, o + i, none⟩ := by unfold Addr.add; split <;> simp_all

/-- a slice of integers that came in -/
theorem open_ints_rd {t e : TypeId} {k : IntKind} {A : Option Addr} {n c : Nat} {d : DataW H} {p : List MemPlace} (ht : P.underlying t = some (.slice e)) (he : P.underlying e = some (.int k)) (hce : P.cellsOf e = 1)
    (h : DataW.Trod enc P w 0 (fun _ => true) true t (.slice A n c) d p) :
    ∃ l : List Int, l.length = n ∧ n ≤ c ∧ c ≤ 9223372036854775807 ∧ Rd w w.heap.size 1 A n (l.map (Value.int k)) ∧ wfs k l := by
  obtain ⟨fuel, hf⟩ := h
  rcases open_ints ht he hce hf with ⟨hcs, hx⟩ | ⟨a, len, cap, zs, hcs, _, hl, hm, hz, hx, hcell, hwz⟩
  · simp only [Value.cells, List.cons.injEq, Value.slice.injEq, and_true] at hcs
    obtain ⟨rfl, rfl, rfl⟩ := hcs
    exact ⟨[], rfl, Nat.le_refl _, by omega, Rd.nil_, fun x hx => by cases hx⟩
  · simp only [Value.cells, List.cons.injEq, Value.slice.injEq, and_true] at hcs
    obtain ⟨rfl, rfl, rfl⟩ := hcs
    simp only [if_true] at hz
    refine ⟨zs.take n, by simp; omega, hl, by unfold maxLen at hm; exact hm, ⟨by simp; omega, fun hn => ?_⟩, fun x hx => hwz x (List.mem_of_mem_take hx)⟩
    obtain ⟨b, o, s⟩ := a
    have h0 := hcell 0 (by omega)
    have hs : s = none := by
      have := World.cell?_spot h0
      simpa [Addr.add] using this
    subst hs
    refine ⟨b, o, rfl, ?_, fun j u hu => ?_⟩
    · have := World.block_lt_of_cell? w _ h0
      simpa [Addr.add] using this
    · rw [List.getElem?_map] at hu
      have hj : j < (zs.take n).length := by
        rcases Nat.lt_or_ge j (zs.take n).length with h | h
        · exact h
        · rw [List.getElem?_eq_none h] at hu; cases hu
      have hj' : j < zs.length := by simp at hj; omega
      have := hcell j hj'
      rw [addr_add] at this
      rw [this, ← hu, List.getElem?_eq_getElem hj]
      simp [List.getD, List.getElem?_eq_getElem hj']

/-- a slice of rows of integers that came in -/
theorem open_rows_rd {t e ee : TypeId} {k : IntKind} {sz : Nat} {A : Option Addr} {n c : Nat} {d : DataW H} {p : List MemPlace} (ht : P.underlying t = some (.slice e)) (he : P.underlying e = some (.array sz ee)) (hee : P.underlying ee = some (.int k)) (hce : P.cellsOf ee = 1) (hct : P.cellsOf e = sz) (h0 : 0 < sz)
    (h : DataW.Trod enc P w 0 (fun _ => true) true t (.slice A n c) d p) :
    ∃ l : List (List Int), l.length = n ∧ Rows_ sz l ∧ n ≤ c ∧ c ≤ 9223372036854775807 ∧ Rd w w.heap.size sz A n (l.flatten.map (Value.int k)) ∧ ∀ f ∈ l, wfs k f := by
  obtain ⟨fuel, hf⟩ := h
  rcases Go.Deep.open_slice ht hf with ⟨hcs, hx⟩ | ⟨a, len, cap, m, n', D, Pl, hcs, _, hl, hm, hmm, hx, hi⟩
  · simp only [Value.cells, List.cons.injEq, Value.slice.injEq, and_true] at hcs
    obtain ⟨rfl, rfl, rfl⟩ := hcs
    exact ⟨[], rfl, (fun f hf => by cases hf), Nat.le_refl _, by omega, Rd.nil_, fun x hx => by cases hx⟩
  · simp only [Value.cells, List.cons.injEq, Value.slice.injEq, and_true] at hcs
    obtain ⟨rfl, rfl, rfl⟩ := hcs
    simp only [if_true] at hmm
    subst hmm
    have hrow : ∀ i, i < m → ∃ L : List Int, L.length = sz ∧ wfs k L ∧ ∀ j, (hj : j < L.length) → w.cell? (a.add (i * sz + j)) = some (.int k L[j]) := fun i him => by
      obtain ⟨cs', hcc, htr⟩ := hi i him
      rw [hct] at hcc
      obtain ⟨_, hlen, hat⟩ := World.cells?_some hcc
      obtain ⟨L, hL, rfl, _, hw⟩ := trod_arr he hee hce hct htr
      refine ⟨L, hL, hw, fun j hj => ?_⟩
      have := hat j (by omega)
      rw [Go.Deep.add_add] at this
      rw [this, List.getElem?_map, List.getElem?_eq_getElem hj]
      rfl
    have hall : ∀ q, q ≤ m → ∃ l : List (List Int), l.length = q ∧ Rows_ sz l ∧ (∀ f ∈ l, wfs k f) ∧ ∀ i (hi : i < l.length), ∀ j, (hj : j < (l[i]).length) → w.cell? (a.add (i * sz + j)) = some (.int k (l[i])[j]) := by
      intro q
      induction q with
      | zero => intro _; exact ⟨[], rfl, (fun f hf => by cases hf), (fun f hf => by cases hf), fun i hi => by cases hi⟩
      | succ q ih =>
        intro hq
        obtain ⟨l, h1, h2, h3, h4⟩ := ih (by omega)
        obtain ⟨L, g1, g2, g3⟩ := hrow q (by omega)
        refine ⟨l ++ [L], by simp [h1], fun f hf => ?_, fun f hf => ?_, fun i hi j hj => ?_⟩
        · rcases List.mem_append.1 hf with h | h
          · exact h2 f h
          · rw [List.mem_singleton] at h; subst h; exact g1
        · rcases List.mem_append.1 hf with h | h
          · exact h3 f h
          · rw [List.mem_singleton] at h; subst h; exact g2
        · by_cases hiq : i < l.length
          · simp only [List.getElem_append_left hiq] at hj ⊢
            exact h4 i hiq j hj
          · have : i = l.length := by simp at hi; omega
            subst this
            simp only [List.getElem_concat_length] at hj ⊢
            have g4 := g3 j hj
            rw [← h1] at g4
            exact g4
    obtain ⟨l, h1, h2, h3, h4⟩ := hall n (by omega)
    refine ⟨l, h1, h2, hl, by unfold maxLen at hm; exact hm, ⟨by rw [List.length_map, flat_length h2, h1], fun hn => ?_⟩, h3⟩
    have hc0 := h4 0 (by omega) 0 (by rw [h2.at_ (by omega)]; exact h0)
    obtain ⟨b, o, s⟩ := a
    have hs : s = none := by
      have := World.cell?_spot hc0
      simpa [Addr.add] using this
    subst hs
    refine ⟨b, o, rfl, ?_, fun j u hu => ?_⟩
    · have := World.block_lt_of_cell? w _ hc0
      simpa [Addr.add] using this
    · rw [List.getElem?_map] at hu
      have hj : j < l.flatten.length := by
        rcases Nat.lt_or_ge j l.flatten.length with h | h
        · exact h
        · rw [List.getElem?_eq_none h] at hu; cases hu
      rw [flat_length h2] at hj
      have hq : j / sz < l.length := by
        rw [Nat.div_lt_iff_lt_mul h0]; exact hj
      have hr : j % sz < sz := Nat.mod_lt _ h0
      have e : j / sz * sz + j % sz = j := by rw [Nat.mul_comm]; exact Nat.div_add_mod j sz
      have h5 := flat_get h2 hq hr
      rw [e] at h5
      have h6 := h4 (j / sz) hq (j % sz) (by rw [h2.at_ hq]; exact hr)
      rw [e, addr_add] at h6
      rw [h5] at hu
      rw [h6]
      exact hu

theorem post_of_below {f : Func} {s : ChangeSpec} {apart fresh handsOn again : Bool} {W W' : World} {args : Array Value} {v : Value} {ds gs : List (DataW H)} {before pa pv : List MemPlace}
    (hW : DataW.Whole enc P f.params.toList s.vars apart W args.toList ds gs before)
    (hres : ∀ (b : Nat) (sp : Nat → Bool) (hd : Bool), DataW.TrodAll enc P W' b sp hd f.resultTypes.toList (v.resultList f.resultTypes.size) (s.fn H (ds ++ gs)).results [])
    (hargs : ∀ sp : Nat → Bool, (∀ p ∈ before, sp p.block = true) → DataW.TrodAll enc P W' 0 sp true f.params.toList args.toList (s.fn H (ds ++ gs)).args pa)
    (hvars : ∀ sp : Nat → Bool, (∀ p ∈ before, sp p.block = true) → DataW.TrodVars enc P W' sp s.vars (s.fn H (ds ++ gs)).vars pv)
    (hps : before = pa ++ pv) (hb : Below W.heap.size W W')
    (hok : ∀ (j : Nat) (t : TypeId) (r : Value), f.resultTypes[j]? = some t → (v.resultList f.resultTypes.size)[j]? = some r → Value.okWide P W' .any 0 t r) :
    s.post enc P f apart fresh handsOn again W args v W' := by
  have hlt : ∀ p ∈ before, p.block < W.heap.size := fun p hp => hW.lt p hp
  have hold : ∀ p ∈ before, (fun b => decide (b < W.heap.size)) p.block = true := fun p hp => by simpa using hlt p hp
  refine ⟨ds, gs, before, [], pa, pv, hW, hres _ _ _, hargs _ hold, hvars _ hold, World.keptBut_mono (fun p hp => ⟨hp, ?_⟩) (hb.frame (· ∈ before)), fun _ => ?_⟩
  · rw [hps, List.mem_append] at hp
    exact Or.inr hp
  · obtain ⟨_, _, _, _, _, hz, hn⟩ := hW
    refine ⟨hok, _, _, ([] ++ pa) ++ pv, ⟨[] ++ pa, pv, trodAll_append (hargs _ (fun _ _ => rfl)) (hres _ _ _), hvars _ (fun _ _ => rfl), rfl, ?_, ?_⟩, ?_⟩
    · intro b off hp
      have hin : MemPlace.cell b off ∈ before := by rw [hps]; simpa using hp
      rw [hb.frozen (hlt _ hin)]
      exact hz b off hin
    · intro ha
      have := hn ha
      rw [hps] at this
      simpa using this
    · intro p hp _
      rw [hps]
      simpa using hp
end
end Go.Proofs.YtfjfiljgbkhblaaDoor
