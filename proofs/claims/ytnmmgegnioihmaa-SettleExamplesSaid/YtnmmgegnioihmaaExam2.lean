/- The chapter's examples hold: SettleExamples returns true. -/
import Derived.Test.YtnmmgegnioihmaaExam1
import Derived.Test.YtnmmgegnioihmaaOpenA
set_option linter.unusedVariables false
set_option linter.unusedSimpArgs false
namespace Go.Proofs.Ytnmmgegnioihmaa
open Go.ChangeShapes Go.WideShapes Go.ChangeAt Go.RowKit

theorem sexam_own : ownKnob Try.prog.godebug = none := by kernel_rfl
theorem sexam_rd : ∀ t ∈ Try.f8.params.toList, Try.prog.readableRec t = true ∧ t < Try.prog.types.size := by
  rw [Try.params8]
  intro t ht
  simp at ht
theorem sexam_res : Try.f8.resultTypes = #[4] := by kernel_rfl
set_option maxRecDepth 100000 in
theorem sexam_lifted (os : Os) (started : os.Started) (H : Type) (enc : TypeId × Value → H) :
    ReturnsInHanded {} Try.checked os 8 .any (Rows.settleExamplesSpec.pre6 enc Try.prog Try.f8 Rows.settleExamplesRow.domain false) (Rows.settleExamplesSpec.post enc Try.prog Try.f8 false true false false) := by
  refine returnsInHanded_of_change (C := Try.checked) sexam_own started (by kernel_rfl) Try.func8
    (ChangeSpec.witness6 (enc := enc) (C := Try.checked) false ⟨#[], #[], []⟩ 8 (by kernel_rfl) (by kernel_rfl) (by kernel_rfl) (by kernel_rfl)) ?_
  intro W base args ds gs before hval0 hW _ _
  have hW' := hW
  obtain ⟨p, q, hA0, hV, rfl, hfz, hnd⟩ := hW
  have hA : DataW.TrodAll enc Try.prog W 0 (fun _ => true) true Try.f8.params.toList args.toList ds p := hA0
  rw [Try.params8] at hA
  obtain ⟨hv, rfl, rfl⟩ := trodAll_nil hA
  obtain rfl : args = #[] := by cases args; simp_all
  obtain ⟨rfl, rfl⟩ := trodVars_none hV
  refine (examples_calls W).mono ?_
  rintro e W' ⟨rfl, hbl⟩
  exact ⟨_, rfl, post_true hW' rfl sexam_res rfl rfl rfl sexam_rd hbl⟩
theorem sexam_both {a b : Bool} (h : a = true) (k : b = true) : (a && b) = true := by rw [h, k]; rfl
set_option maxHeartbeats 8000000 in
set_option maxRecDepth 100000 in
theorem sexam_closed : joinedFacts Try.pinned.checked.prog 8 Try.f8 Rows.settleExamplesSpec Rows.settleExamplesRow = true := by
  unfold joinedFacts
  repeat' (with_reducible refine sexam_both ?_ ?_)
  all_goals (as_aux_lemma => kernel_rfl)
theorem sexam_named : Try.pinned.checked.prog.funcNamed Rows.settleExamplesRow.func = some 8 := by kernel_rfl
theorem settleExamples_holds : Rows.SettleExamplesSaid :=
  OpenClaim.holds_of_wide 8 Try.f8 rfl rfl rfl rfl rfl rfl rfl ⟨rfl, rfl, rfl, rfl, rfl⟩ rfl rfl rfl rfl rfl sexam_named Try.func8 sexam_closed
    (of_decide_eq_true (by as_aux_lemma => kernel_rfl)) (by unfold Func.isWrapper; first | (rw [if_pos (by as_aux_lemma => decide +kernel)]; as_aux_lemma => kernel_rfl) | (rw [if_neg (by as_aux_lemma => decide +kernel)]; exact ⟨rfl, rfl⟩))
    (fun os started H enc _ => sexam_lifted os started H enc)
#print axioms settleExamples_holds
end Go.Proofs.Ytnmmgegnioihmaa
