/- SettlePriceChangeUptoSaid: raising the day-ahead price by k adds k times the day-ahead quantity to what is owed, raising the real-time price by k adds k times the deviation; where what it reads is of bulk at most 1048576. -/
import Derived.Test.YtnmmgegnioihmaaPC2
import Derived.Test.YtnmmgegnioihmaaOpen
set_option linter.unusedVariables false
set_option linter.unusedSimpArgs false
namespace Go.Proofs.Ytnmmgegnioihmaa
open Go.ChangeShapes Go.WideShapes Go.ChangeAt Go.RowKit

theorem pc_own : ownKnob Try.prog.godebug = none := by kernel_rfl
theorem rd_Q : Try.prog.readableRec 43 = true ∧ 43 < Try.prog.types.size := ⟨by kernel_rfl, of_decide_eq_true (by kernel_rfl)⟩
theorem pc_res : Try.f5.resultTypes = #[4] := by kernel_rfl
set_option maxRecDepth 100000 in
theorem pc_contract (H : Type) (enc : TypeId × Value → H) (W : World) (base : Nat) (args : Array Value) (ds gs : List (DataW H)) (before : List MemPlace)
    (hval : ∀ (j : Nat) t v, Try.f5.params[j]? = some t → args[j]? = some v → Value.okWide Try.prog W .any base t v)
    (hW : DataW.Whole enc Try.prog Try.f5.params.toList Rows.settlePriceChangeSpec.vars false W args.toList ds gs before) (hk : Rows.uptoSmall H (ds ++ gs) = true) :
    Calls Try.prog 5 args W fun e W' => ∃ v, e = .returned v ∧ Rows.settlePriceChangeSpec.post enc Try.prog Try.f5 false true false false W args v W' := by
  have hW' := hW
  obtain ⟨p, q, hA0, hV, rfl, hfz, hnd⟩ := hW
  have hA : DataW.TrodAll enc Try.prog W 0 (fun _ => true) true Try.f5.params.toList args.toList ds p := hA0
  rw [Try.params5] at hA hval
  obtain ⟨v0, vs0, d0, ds0, p0, q0, hargs, rfl, rfl, h0, r0⟩ := trodAll_cons hA
  obtain ⟨v1, vs1, d1, ds1, p1, q1, rfl, rfl, rfl, h1, r1⟩ := trodAll_cons r0
  obtain ⟨v2, vs2, d2, ds2, p2, q2, rfl, rfl, rfl, h2, r2⟩ := trodAll_cons r1
  obtain ⟨v3, vs3, d3, ds3, p3, q3, rfl, rfl, rfl, h3, r3⟩ := trodAll_cons r2
  obtain ⟨v4, vs4, d4, ds4, p4, q4, rfl, rfl, rfl, h4, r4⟩ := trodAll_cons r3
  obtain ⟨rfl, rfl, rfl⟩ := trodAll_nil r4
  obtain rfl : args = #[v0, v1, v2, v3, v4] := by cases args; simp_all
  obtain ⟨rfl, rfl⟩ := trodVars_none hV
  simp only [List.append_nil] at hW' hk
  have hb : Rows.uptoBulkAll [d0, d1, d2, d3, d4] ≤ 1048576 := of_decide_eq_true hk
  have hp := fun d hd => Nat.le_trans (part_leB (d := d) (l := [d0, d1, d2, d3, d4]) hd) hb
  obtain ⟨a, ha, sa⟩ := argQ (hval 0 43 v0 rfl rfl) h0
  obtain ⟨b, hb', sb⟩ := argQ (hval 1 43 v1 rfl rfl) h1
  obtain ⟨c, hc, sc⟩ := argQ (hval 2 43 v2 rfl rfl) h2
  obtain ⟨d, hd, sd⟩ := argQ (hval 3 43 v3 rfl rfl) h3
  obtain ⟨e, he, se⟩ := argQ (hval 4 43 v4 rfl rfl) h4
  refine (priceChange_calls v0 v1 v2 v3 v4 a b c d e 1048576 W ha hb' hc hd he (Nat.le_trans sa (hp d0 (by simp))) (Nat.le_trans sb (hp d1 (by simp))) (Nat.le_trans sc (hp d2 (by simp))) (Nat.le_trans sd (hp d3 (by simp))) (Nat.le_trans se (hp d4 (by simp))) (by omega)).mono ?_
  rintro e W' ⟨rfl, hbl⟩
  refine ⟨_, rfl, post_true hW' rfl pc_res rfl rfl rfl (fun t ht => ?_) hbl⟩
  rw [Try.params5] at ht
  simp only [List.mem_cons, List.not_mem_nil, or_false, or_self] at ht
  subst ht
  exact rd_Q
set_option maxRecDepth 100000 in
theorem pc_lifted (os : Os) (started : os.Started) (H : Type) (enc : TypeId × Value → H) (F : Stop.Interp) :
    ReturnsInHanded {} Try.checked os 5 .any ((Rows.OpenSpec.upto Rows.settlePriceChangeSpec).pre6 enc Try.prog Try.f5 Rows.settlePriceChangeUptoRow.domain false) (((Rows.OpenSpec.upto Rows.settlePriceChangeSpec).at F).post enc Try.prog Try.f5 false true false false) := by
  refine returnsInHanded_of_cond (C := Try.checked) (s := Rows.OpenSpec.upto Rows.settlePriceChangeSpec) (k := Rows.uptoSmall) rfl pc_own started (by kernel_rfl) Try.func5
    (OpenSpec.witness (enc := enc) (C := Try.checked) (s := Rows.OpenSpec.upto Rows.settlePriceChangeSpec) (k := Rows.uptoSmall) rfl false ⟨#[], #[.agg #[.bool false, .slice none 0 0, .bool false, .slice none 0 0], .agg #[.bool false, .slice none 0 0, .bool false, .slice none 0 0], .agg #[.bool false, .slice none 0 0, .bool false, .slice none 0 0], .agg #[.bool false, .slice none 0 0, .bool false, .slice none 0 0], .agg #[.bool false, .slice none 0 0, .bool false, .slice none 0 0]], []⟩ 8 (by kernel_rfl) (by kernel_rfl) (by kernel_rfl)
      (x := ([.agg [.agg [.lit (.bool false), .nil], .agg [.lit (.bool false), .nil]], .agg [.agg [.lit (.bool false), .nil], .agg [.lit (.bool false), .nil]], .agg [.agg [.lit (.bool false), .nil], .agg [.lit (.bool false), .nil]], .agg [.agg [.lit (.bool false), .nil], .agg [.lit (.bool false), .nil]], .agg [.agg [.lit (.bool false), .nil], .agg [.lit (.bool false), .nil]]], [], [])) (by kernel_rfl) rfl (by kernel_rfl)) ?_
  intro W base args ds gs before hval hW _ hk _
  exact pc_contract H enc W base args ds gs before hval hW hk

theorem both {a b : Bool} (h : a = true) (k : b = true) : (a && b) = true := by rw [h, k]; rfl
set_option maxHeartbeats 8000000 in
set_option maxRecDepth 100000 in
theorem pc_closed : joinedFacts Try.pinned.checked.prog 5 Try.f5 (Rows.OpenSpec.upto Rows.settlePriceChangeSpec).bare Rows.settlePriceChangeUptoRow = true := by
  unfold joinedFacts
  repeat' (with_reducible refine both ?_ ?_)
  all_goals (as_aux_lemma => kernel_rfl)
theorem pc_named : Try.pinned.checked.prog.funcNamed Rows.settlePriceChangeUptoRow.func = some 5 := by kernel_rfl
theorem priceChangeUpto : Rows.SettlePriceChangeUptoSaid :=
  OpenClaim.holds_of_cond 5 Try.f5 rfl rfl rfl rfl rfl rfl rfl ⟨rfl, rfl, rfl, rfl, rfl⟩ rfl rfl rfl rfl rfl pc_named Try.func5 pc_closed
    (of_decide_eq_true (by as_aux_lemma => kernel_rfl)) (by unfold Func.isWrapper; first | (rw [if_pos (by as_aux_lemma => decide +kernel)]; as_aux_lemma => kernel_rfl) | (rw [if_neg (by as_aux_lemma => decide +kernel)]; exact ⟨rfl, rfl⟩))
    (fun os started H enc _ F => pc_lifted os started H enc F)
#print axioms priceChangeUpto
end Go.Proofs.Ytnmmgegnioihmaa
