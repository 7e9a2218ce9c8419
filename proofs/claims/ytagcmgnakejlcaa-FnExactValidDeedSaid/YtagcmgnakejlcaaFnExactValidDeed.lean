/- The law FnExactValidDeed holds for every input: its row, out of its walk. No condition. -/
import Derived.Test.YtagcmgnakejlcaaDd
import Derived.Test.YtagcmgnakejlcaaOpen
import Derived.Lib.SmallJoins
namespace Go.Proofs.Ytagcmgnakejlcaa.fnExactValidDeed
open Go.ChangeShapes Go.WideShapes Go.ChangeAt Go.RowKit
theorem own : ownKnob Try.prog.godebug = none := by kernel_rfl
theorem cells28 : Try.prog.cellsOf 28 = 3 := by kernel_rfl
set_option maxRecDepth 100000 in
theorem lifted (os : Os) (started : os.Started) (H : Type) (enc : TypeId × Value → H) :
    ReturnsInHanded {} Try.checked os 4 .any (Rows.fnExactValidDeedSpec.pre6 enc Try.prog Try.f4 Rows.fnExactValidDeedRow.domain false) (Rows.fnExactValidDeedSpec.post enc Try.prog Try.f4 false true false false) := by
  refine returnsInHanded_of_change (C := Try.checked) own started (by kernel_rfl) Try.func4
    (ChangeSpec.witness6 (enc := enc) (C := Try.checked) false ⟨#[], #[.agg #[.int .i64 0, .int .i64 0, .int .i64 0]], []⟩ 8 (by kernel_rfl) (by kernel_rfl) (by kernel_rfl) (by kernel_rfl)) ?_
  intro W base args ds gs before hval hW _ _
  have hW' := hW
  obtain ⟨p, q, hA0, hV, rfl, hfz, hnd⟩ := hW
  have hA : DataW.TrodAll enc Try.prog W 0 (fun _ => true) true Try.f4.params.toList args.toList ds p := hA0
  rw [Try.params4] at hA hval
  obtain ⟨v0, vs0, d0, ds0, p0, q0, hargs, rfl, rfl, h0, r0⟩ := trodAll_cons hA
  obtain ⟨rfl, rfl, rfl⟩ := trodAll_nil r0
  obtain rfl : args = #[v0] := by cases args; simp_all
  obtain ⟨rfl, rfl⟩ := trodVars_none hV
  obtain ⟨c00, c01, c02, y00, y01, y02, m0, rfl, rfl, rfl, e00, e01, e02⟩ := Joins.open_agg3 Try.underlying28 (by kernel_rfl) cells28 (hval 0 28 v0 rfl rfl) h0
  obtain ⟨x00, k00, rfl, w00⟩ := DataW.trod_int Try.underlying2 e00
  obtain ⟨x01, k01, rfl, w01⟩ := DataW.trod_int Try.underlying2 e01
  obtain ⟨x02, k02, rfl, w02⟩ := DataW.trod_int Try.underlying2 e02
  simp only [List.cons.injEq, and_true] at k00 k01 k02
  subst k00 k01 k02
  clear hA0
  simp only [List.append_nil] at hW'
  refine (lawValidDeed_any x00 x01 x02 W).mono fun e W' ⟨he, hb⟩ => ?_
  subst he
  exact ⟨_, rfl, post_of_below (pa := []) (pv := []) hW' (fun _ _ _ => (trodAll_cons_mk (shut_bool Try.underlying4 _) trodAll_mk0)) (fun sp _ => (trodAll_cons_mk (Joins.shut_agg3 (y0 := (.lit (.int .i64 x00), [])) (y1 := (.lit (.int .i64 x01), [])) (y2 := (.lit (.int .i64 x02), [])) Try.underlying28 (by kernel_rfl) cells28 ⟨1, by simp [DataW.trod, Try.underlying2, w00]⟩ ⟨1, by simp [DataW.trod, Try.underlying2, w01]⟩ ⟨1, by simp [DataW.trod, Try.underlying2, w02]⟩) trodAll_mk0)) (fun _ _ => rfl) rfl
    hb (ok_one (by kernel_rfl) rfl (okWide_bool_mk Try.underlying4 _))⟩

theorem holds : Rows.FnExactValidDeedSaid :=
  OpenClaim.holds_of_wide 4 Try.f4 rfl rfl rfl rfl rfl rfl rfl ⟨rfl, rfl, rfl, rfl, rfl⟩ rfl rfl rfl rfl rfl (by kernel_rfl) Try.func4 (by kernel_rfl)
    (of_decide_eq_true (by kernel_rfl)) (by unfold Func.isWrapper; first | (rw [if_pos (by decide +kernel)]; kernel_rfl) | (rw [if_neg (by decide +kernel)]; exact ⟨rfl, rfl⟩))
    (fun os started H enc _ => lifted os started H enc)
#print axioms holds
end Go.Proofs.Ytagcmgnakejlcaa.fnExactValidDeed
