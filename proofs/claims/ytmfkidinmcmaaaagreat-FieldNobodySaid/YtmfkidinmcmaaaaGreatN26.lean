/- FieldNobody (law 26) is proved: whatever the op, the law returns true and the op reads behind the call as ahead of it. Conditions: none. -/
import Derived.Test.YtmfkidinmcmaaaaGreatRows
import Derived.Test.YtmfkidinmcmaaaaGreatL26
import Derived.Test.YtmfkidinmcmaaaaGreatFrameT
namespace Go.Proofs.YtmfkidinmcmaaaaGreat.fieldNobody
open Go.ChangeShapes Go.WideShapes Go.ChangeAt Go.RowKit Go.AM

theorem own : ownKnob Tryz.prog.godebug = none := by kernel_rfl
theorem laidOut : laidOutB Tryz.prog = true := by kernel_rfl
theorem cells23 : Tryz.prog.cellsOf 23 = 5 := by kernel_rfl
theorem rec23 : Tryz.prog.readableRec 23 = true := by kernel_rfl
theorem row23 : (23 : TypeId) < Tryz.prog.types.size := of_decide_eq_true (by kernel_rfl)
theorem types23 : Tryz.prog.cellTypes Tryz.prog.depth 23 = some [3, 3, 3, 3, 3] := by kernel_rfl
theorem resultTypes3 : Tryz.f3.resultTypes = #[4] := by kernel_rfl

set_option maxRecDepth 100000 in
theorem lifted (os : Os) (started : os.Started) (H : Type) (enc : TypeId × Value → H) :
    ReturnsInHanded {} Tryz.checked os 3 .any (Rows.fieldNobodySpec.pre6 enc Tryz.prog Tryz.f3 Rows.fieldNobodyRow.domain false) (Rows.fieldNobodySpec.post enc Tryz.prog Tryz.f3 false true false false) := by
  refine returnsInHanded_of_change (C := Tryz.checked) own started (by kernel_rfl) Tryz.func3
    (ChangeSpec.witness6 (enc := enc) (C := Tryz.checked) false ⟨#[], #[.agg #[.int .i64 0, .int .i64 0, .int .i64 0, .int .i64 0, .int .i64 0]], []⟩ 8 (by kernel_rfl) (by kernel_rfl) (by kernel_rfl) (by kernel_rfl)) ?_
  intro W base args ds gs before hval0 hW hcnd _
  have hval : ∀ (j : Nat) t v, Tryz.f3.params[j]? = some t → args[j]? = some v → Value.okWide Tryz.prog W .any base t v := hval0
  have hW' := hW
  obtain ⟨p, q, hA0, hV, rfl, hfz, hnd⟩ := hW
  have hA : DataW.TrodAll enc Tryz.prog W 0 (fun _ => true) true Tryz.f3.params.toList args.toList ds p := hA0
  rw [Tryz.params3] at hA hval
  obtain ⟨v0, vs0, d0, ds0, p0, q0, hargs, rfl, rfl, h0, r0⟩ := trodAll_cons hA
  obtain ⟨rfl, rfl, rfl⟩ := trodAll_nil r0
  obtain rfl : args = #[v0] := by cases args; simp_all
  obtain ⟨rfl, rfl⟩ := trodVars_none hV
  obtain ⟨a0, a, a2, a3, a4, rfl⟩ := open5 Tryz.underlying23 types23 cells23 Tryz.underlying3 (hval 0 23 v0 rfl rfl)
  obtain ⟨h', nx', S⟩ := nobody_sim a
  refine (rel_call S (.cons (.one (.agg (.cons (.any rfl) (.cons (.int _ _) (.cons (.any rfl) (.cons (.any rfl) (.cons (.any rfl) .nil))))))) .nil) W).mono fun e W' ⟨he, hb⟩ => ?_
  subst he
  refine ⟨_, rfl, law_post laidOut (fun t ht => ?_) rfl resultTypes3 Tryz.underlying4 hW' rfl hb⟩
  have ht : t ∈ [23] := by rw [Tryz.params3] at ht; exact ht
  obtain rfl : t = 23 := by simpa using ht
  exact ⟨rec23, row23⟩

theorem over : Rows.fieldNobodyRow.holds Tryz.pinned (OpenSpec.ofChange Rows.fieldNobodySpec) :=
  OpenClaim.holds_of_wide 3 Tryz.f3 rfl rfl rfl rfl rfl rfl rfl ⟨rfl, rfl, rfl, rfl, rfl⟩ rfl rfl rfl rfl rfl (by kernel_rfl) Tryz.func3 (by kernel_rfl)
    (of_decide_eq_true (by kernel_rfl)) (by unfold Func.isWrapper; first | (rw [if_pos (by decide +kernel)]; kernel_rfl) | (rw [if_neg (by decide +kernel)]; exact ⟨rfl, rfl⟩))
    (fun os started H enc _ => lifted os started H enc)

theorem proved : Rows.FieldNobodySaid := over
#print axioms proved
end Go.Proofs.YtmfkidinmcmaaaaGreat.fieldNobody
