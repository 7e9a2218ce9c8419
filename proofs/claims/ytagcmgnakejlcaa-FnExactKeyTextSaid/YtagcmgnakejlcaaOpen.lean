/- Arguments opened and shut again: rows of integers by value, slices of rows, plain slices. No program in sight. -/
import Derived.Test.YtagcmgnakejlcaaBase
import Derived.OpenShut
import Derived.Deep.Slices
import Derived.ChangeAlike
namespace Go.Proofs.Ytagcmgnakejlcaa
open Go.ChangeShapes Go.WideShapes Go.ChangeAt Go.RowKit Go.Deep
section
variable {H : Type} {enc : TypeId × Value → H} {P : Program} {w : World} {base : Nat} {spare : Nat → Bool} {held : Bool}

/-- integers as data -/
def ids (H : Type) (k : IntKind) (l : List Int) : List (DataW H) := l.map fun x => .lit (.int k x)
def wfs (k : IntKind) (l : List Int) : Prop := ∀ x ∈ l, (Lit.int k x).wf = true

theorem drop_take_one {α : Type} {l : List α} {i : Nat} (h : i < l.length) : (l.drop i).take 1 = [l[i]] := by
  rw [List.drop_eq_getElem_cons h]; rfl

theorem trod_arr {t e : TypeId} {n fuel : Nat} {k : IntKind} {cs : List Value} {x : DataW H × List MemPlace} (ht : P.underlying t = some (.array n e)) (he : P.underlying e = some (.int k)) (hce : P.cellsOf e = 1) (hct : P.cellsOf t = n)
    (h : DataW.trod enc P w base spare held fuel t cs = some x) :
    ∃ L : List Int, L.length = n ∧ cs = L.map (Value.int k) ∧ x = (.agg (ids H k L), []) ∧ wfs k L := by
  obtain ⟨xs, m, rfl, rfl, hlen, hxs, hg⟩ := DataW.trod_array ht h
  rw [hce] at hg
  rw [hct] at hlen
  have hi : ∀ i (hi : i < n), ∃ z : Int, cs[i]'(by omega) = .int k z ∧ xs[i]'(by omega) = (.lit (.int k z), []) ∧ (Lit.int k z).wf = true := by
    intro i hi
    have h1 := hg i hi
    rw [Nat.mul_one, drop_take_one (by omega), List.getElem?_eq_getElem (by omega)] at h1
    obtain ⟨z, hz, hx, hw⟩ := DataW.trod_int he h1
    simp only [List.cons.injEq, and_true] at hz
    exact ⟨z, hz, hx, hw⟩
  let val : Value → Int := fun v => match v with | .int _ z => z | _ => 0
  refine ⟨cs.map val, by simp [hlen], ?_, ?_, ?_⟩
  · apply List.ext_getElem (by simp)
    intro i h1 h2
    obtain ⟨z, hz, _, _⟩ := hi i (by omega)
    simp [hz, val]
  · congr 1
    · congr 1
      apply List.ext_getElem (by simp [ids]; omega)
      intro i h1 h2
      have hin : i < n := by simpa [hxs] using h1
      obtain ⟨z, hz, hx, _⟩ := hi i hin
      simp [ids, hz, hx, val]
    · apply List.flatMap_eq_nil_iff.2
      intro y hy
      obtain ⟨i, hil, rfl⟩ := List.getElem_of_mem hy
      obtain ⟨z, _, hx, _⟩ := hi i (by omega)
      simp [hx]
  · intro z hz
    obtain ⟨v, hv, rfl⟩ := List.mem_map.1 hz
    obtain ⟨i, hil, rfl⟩ := List.getElem_of_mem hv
    obtain ⟨z, hz', _, hw⟩ := hi i (by omega)
    simpa [hz', val] using hw

theorem trod_arr_mk {t e : TypeId} {n : Nat} {k : IntKind} {L : List Int} (ht : P.underlying t = some (.array n e)) (he : P.underlying e = some (.int k)) (hce : P.cellsOf e = 1) (hct : P.cellsOf t = n) (hL : L.length = n) (hw : wfs k L) (fuel : Nat) :
    DataW.trod enc P w base spare held (fuel + 2) t (L.map (Value.int k)) = some (.agg (ids H k L), []) := by
  have hm : (List.range n).mapM (fun i => DataW.trod enc P w base spare held (fuel + 1) e (((L.map (Value.int k)).drop (i * P.cellsOf e)).take (P.cellsOf e))) = some ((ids H k L).map fun d => (d, [])) := by
    rw [show (fun i => DataW.trod enc P w base spare held (fuel + 1) e (((L.map (Value.int k)).drop (i * P.cellsOf e)).take (P.cellsOf e))) = fun i => DataW.trod enc P w base spare held (fuel + 1) e (((L.map (Value.int k)).drop i).take 1) from by rw [hce]; simp]
    clear hct ht
    subst hL
    induction L with
    | nil => rfl
    | cons x L ih =>
      have ih' := ih (fun y hy => hw y (List.mem_cons_of_mem _ hy))
      rw [List.length_cons, List.range_succ_eq_map, List.mapM_cons, List.mapM_map]
      have h0 : DataW.trod enc P w base spare held (fuel + 1) e ((List.drop 0 (List.map (Value.int k) (x :: L))).take 1) = some (.lit (.int k x), []) := by
        simp [DataW.trod, he, hw x (List.mem_cons_self ..)]
      rw [h0]
      have h1 : (List.range L.length).mapM ((fun i => DataW.trod enc P w base spare held (fuel + 1) e ((List.drop i (List.map (Value.int k) (x :: L))).take 1)) ∘ Nat.succ) = some ((ids H k L).map fun d => (d, [])) := by
        rw [← ih']; rfl
      rw [h1]
      rfl
  unfold DataW.trod
  rw [ht]
  simp only [List.length_map, hL, hct, if_true, hm, Option.map_some]
  congr 2
  · congr 1; simp [Function.comp_def]
  · exact List.flatMap_eq_nil_iff.2 fun y hy => by obtain ⟨d, _, rfl⟩ := List.mem_map.1 hy; rfl

theorem open_arr {r : Reach} {b0 : Nat} {t e : TypeId} {n : Nat} {k : IntKind} {v : Value} {d : DataW H} {p : List MemPlace} (ht : P.underlying t = some (.array n e)) (he : P.underlying e = some (.int k)) (hce : P.cellsOf e = 1) (hct : P.cellsOf t = n)
    (hv : Value.okWide P w r b0 t v) (h : DataW.Trod enc P w base spare held t v d p) :
    ∃ L : List Int, L.length = n ∧ v = .agg (ivs k L) ∧ d = .agg (ids H k L) ∧ p = [] ∧ wfs k L := by
  obtain ⟨cs, rfl, _, _⟩ : ∃ cs, v = .agg cs ∧ cs.size = P.cellsOf t ∧ Row.okWide P w r b0 t cs := by simpa [Value.okWide, ht] using hv
  obtain ⟨fuel, hf⟩ := h
  obtain ⟨L, hL, hcs, hx, hw⟩ := trod_arr ht he hce hct hf
  simp only [Prod.mk.injEq] at hx
  refine ⟨L, hL, ?_, hx.1, hx.2, hw⟩
  rw [ivs, ← hcs]
  simp [Value.cells]

theorem shut_arr {t e : TypeId} {n : Nat} {k : IntKind} {L : List Int} (ht : P.underlying t = some (.array n e)) (he : P.underlying e = some (.int k)) (hce : P.cellsOf e = 1) (hct : P.cellsOf t = n) (hL : L.length = n) (hw : wfs k L) :
    DataW.Trod enc P w base spare held t (.agg (ivs k L)) (.agg (ids H k L)) [] :=
  ⟨2, by rw [Value.cells, ivs_toList]; exact trod_arr_mk ht he hce hct hL hw 0⟩

theorem post_of_below {f : Func} {s : ChangeSpec} {apart fresh handsOn again : Bool} {W W' : World} {args : Array Value} {v : Value} {ds gs : List (DataW H)} {before pa pv : List MemPlace}
    (hW : DataW.Whole enc P f.params.toList s.vars apart W args.toList ds gs before)
    (hres : ∀ (b : Nat) (sp : Nat → Bool) (hd : Bool), DataW.TrodAll enc P W' b sp hd f.resultTypes.toList (v.resultList f.resultTypes.size) (s.fn H (ds ++ gs)).results [])
    (hargs : ∀ sp : Nat → Bool, (∀ p ∈ before, sp p.block = true) → DataW.TrodAll enc P W' 0 sp true f.params.toList args.toList (s.fn H (ds ++ gs)).args pa)
    (hvars : ∀ sp : Nat → Bool, (∀ p ∈ before, sp p.block = true) → DataW.TrodVars enc P W' sp s.vars (s.fn H (ds ++ gs)).vars pv)
    (hps : before = pa ++ pv) (hb : Below W.heap.size W W')
    (hok : ∀ (j : Nat) (t : TypeId) (r : Value), f.resultTypes[j]? = some t → (v.resultList f.resultTypes.size)[j]? = some r → Value.okWide P W' .any 0 t r) :
    s.post enc P f apart fresh handsOn again W args v W' := by
  have hlt : ∀ p ∈ before, p.block < W.heap.size := fun p hp => hW.lt p hp
  have hold : ∀ p ∈ before, (fun b => decide (b < W.heap.size)) p.block = true := fun p hp => by simpa using hlt p hp
  refine ⟨ds, gs, before, [], pa, pv, hW, hres _ _ _, hargs _ hold, hvars _ hold, World.keptBut_mono (fun p hp => ⟨hp, ?_⟩) (hb.frame (· ∈ before)), fun _ => ?_⟩
  · rw [hps, List.mem_append] at hp
    exact Or.inr hp
  · obtain ⟨_, _, _, _, _, hz, hn⟩ := hW
    refine ⟨hok, _, _, ([] ++ pa) ++ pv, ⟨[] ++ pa, pv, trodAll_append (hargs _ (fun _ _ => rfl)) (hres _ _ _), hvars _ (fun _ _ => rfl), rfl, ?_, ?_⟩, ?_⟩
    · intro b off hp
      have hin : MemPlace.cell b off ∈ before := by rw [hps]; simpa using hp
      rw [hb.frozen (hlt _ hin)]
      exact hz b off hin
    · intro ha
      have := hn ha
      rw [hps] at this
      simpa using this
    · intro p hp _
      rw [hps]
      simpa using hp
end
end Go.Proofs.Ytagcmgnakejlcaa
