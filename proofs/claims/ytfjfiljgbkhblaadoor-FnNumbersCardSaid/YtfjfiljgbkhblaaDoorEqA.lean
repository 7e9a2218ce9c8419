/- Rows of integers held against each other by the model's own ==. No program in sight. -/
import Derived.Test.YtfjfiljgbkhblaaDoorBase
import Derived.ChangeKeysEq
namespace Go.Proofs.YtfjfiljgbkhblaaDoor
open Go.ChangeShapes Go.WideShapes Go.ChangeAt Go.RowKit Go.ChangeMaps
section
variable {P : Program} (w : World)

theorem run_part_ivs {e : TypeId} {k : IntKind} {l : List Int} {i : Nat} (he : P.underlying e = some (.int k)) (hi : i < l.length) : (part e (ivs k l) (i * 1)).run P w = .ok (.int k (l[i]'hi)) w := by
  have hagg : (isAgg e).run P w = .ok false w := by
    unfold isAgg
    rw [Sem.run_bind, run_underlying he w]
    simp
  rw [Nat.mul_one]
  simp [part, Sem.run_bind, hagg, ivs_at hi]

theorem run_eqItems_ivs {d : Nat} {e : TypeId} {k : IntKind} {a b : List Int} (he : P.underlying e = some (.int k)) (hl : a.length = b.length) : ∀ (m j : Nat), j + m = a.length →
    (Op.eqItems (d + 1) e 1 (ivs k a) (ivs k b) (List.range' j m)).run P w = .ok (a.drop j == b.drop j) w
  | 0, j, h => by
    rw [List.drop_eq_nil_of_le (by omega), List.drop_eq_nil_of_le (by omega)]
    simp [Op.eqItems]
  | m + 1, j, h => by
    have ih := run_eqItems_ivs (d := d) he hl m (j + 1) (by omega)
    rw [List.range'_succ]
    simp only [Op.eqItems, Sem.run_bind, run_part_ivs w he (show j < a.length by omega), run_part_ivs w he (show j < b.length by omega), Result.andThen_ok]
    rw [run_equalIn_int w d e k k _ _ he]
    rw [List.drop_eq_getElem_cons (show j < a.length by omega), List.drop_eq_getElem_cons (show j < b.length by omega)]
    cases hq : (a[j]'(by omega) == b[j]'(by omega)) with
    | true => rw [List.cons_beq_cons, hq, Bool.true_and]; simpa only [Result.andThen_ok, Bool.not_true, Bool.false_eq_true, if_false] using ih
    | false => rw [List.cons_beq_cons, hq, Bool.false_and]; rfl

theorem run_eql_arr {t e : TypeId} {k : IntKind} {n : Nat} {a b : List Int} {i : TypeInfo} (ht : P.underlying t = some (.array n e)) (he : P.underlying e = some (.int k)) (hi : P.info? e = some i) (hce : P.cellsOf e = 1) (ha : a.length = n) (hb : b.length = n) :
    (Op.equalIn 10000 t (.agg (ivs k a)) (.agg (ivs k b))).run P w = .ok (a == b) w := by
  rw [run_equalIn_array w 9999 _ _ ht hi, hce, List.range_eq_range']
  have := run_eqItems_ivs (P := P) w (d := 9998) he (ha.trans hb.symm) n 0 (by omega)
  simpa using this

theorem run_index_ivs {t e : TypeId} {kd : IntKind} {n k : Nat} {l : List Int} {i : TypeInfo} (ht : P.underlying t = some (.array n e)) (he : P.underlying e = some (.int kd)) (hi : P.info? e = some i) (hce : P.cellsOf e = 1) (hl : l.length = n) (hk : k < n) :
    (Instr.index t (.agg (ivs kd l)) (.int .i64 (k : Nat))).run P w = .ok (.int kd (l[k]'(by omega))) w := by
  have hp := run_part_ivs (P := P) w (k := kd) (l := l) (i := k) he (by omega)
  simp only [Nat.mul_one] at hp
  have h1 : (0 : Int) ≤ (k : Int) ∧ (k : Int) < (n : Int) := ⟨by omega, by omega⟩
  simp [Instr.index, asIntOf, run_underlying ht, h1, run_sizeOf w hi, hce, hp]
  omega
end
end Go.Proofs.YtfjfiljgbkhblaaDoor
