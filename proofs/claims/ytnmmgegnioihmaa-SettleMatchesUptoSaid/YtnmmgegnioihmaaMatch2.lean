/- Units and Bids agree with the reference and share no memory with their arguments: SettleMatches returns true, for arguments of a bulk up to the bound of the upto statement. -/
import Derived.Test.YtnmmgegnioihmaaMatch1
import Derived.Test.YtnmmgegnioihmaaOpenA
set_option linter.unusedVariables false
set_option linter.unusedSimpArgs false
namespace Go.Proofs.Ytnmmgegnioihmaa
open Go.ChangeShapes Go.WideShapes Go.ChangeAt Go.RowKit

theorem smatch_own : ownKnob Try.prog.godebug = none := by kernel_rfl
theorem smatch_rd : ∀ t ∈ Try.f3.params.toList, Try.prog.readableRec t = true ∧ t < Try.prog.types.size := by
  rw [Try.params3]
  intro t ht
  simp only [List.mem_cons, List.not_mem_nil, or_false] at ht
  rcases ht with rfl | rfl | rfl | rfl
  all_goals exact ⟨by kernel_rfl, of_decide_eq_true (by kernel_rfl)⟩
theorem smatch_res : Try.f3.resultTypes = #[4] := by kernel_rfl
set_option maxRecDepth 100000 in
theorem smatch_contract (H : Type) (enc : TypeId × Value → H) (W : World) (base : Nat) (args : Array Value) (ds gs : List (DataW H)) (before : List MemPlace)
    (hval : ∀ (j : Nat) t v, Try.f3.params[j]? = some t → args[j]? = some v → Value.okWide Try.prog W .any base t v)
    (hW : DataW.Whole enc Try.prog Try.f3.params.toList Rows.settleMatchesSpec.vars false W args.toList ds gs before) (hk : Rows.uptoSmall H (ds ++ gs) = true) :
    Calls Try.prog 3 args W fun e W' => ∃ v, e = .returned v ∧ Rows.settleMatchesSpec.post enc Try.prog Try.f3 false true false false W args v W' := by
  have hW' := hW
  obtain ⟨p, q, hA0, hV, rfl, hfz, hnd⟩ := hW
  have hA : DataW.TrodAll enc Try.prog W 0 (fun _ => true) true Try.f3.params.toList args.toList ds p := hA0
  rw [Try.params3] at hA hval
  obtain ⟨v0, vs0, d0, ds0, p0, q0, hargs, rfl, rfl, h0, r0⟩ := trodAll_cons hA
  obtain ⟨v1, vs1, d1, ds1, p1, q1, rfl, rfl, rfl, h1, r1⟩ := trodAll_cons r0
  obtain ⟨v2, vs2, d2, ds2, p2, q2, rfl, rfl, rfl, h2, r2⟩ := trodAll_cons r1
  obtain ⟨v3, vs3, d3, ds3, p3, q3, rfl, rfl, rfl, h3, r3⟩ := trodAll_cons r2
  obtain ⟨rfl, rfl, rfl⟩ := trodAll_nil r3
  obtain rfl : args = #[v0, v1, v2, v3] := by cases args; simp_all
  obtain ⟨rfl, rfl⟩ := trodVars_none hV
  simp only [List.append_nil] at hW' hk
  have hb : Rows.uptoBulkAll [d0, d1, d2, d3] ≤ 1048576 := of_decide_eq_true hk
  have hp := fun d hd => Nat.le_trans (part_leB (d := d) (l := [d0, d1, d2, d3]) hd) hb
  have hp0 := hp d0 (by simp)
  have hp1 := hp d1 (by simp)
  have hp2 := hp d2 (by simp)
  have hp3 := hp d3 (by simp)
  obtain ⟨A0, c0, x0, rfl, hx0, hw0, hl0⟩ := argI (hval 0 22 v0 rfl rfl) h0
  obtain ⟨A1, c1, x1, rfl, hx1, hw1, hl1⟩ := argI (hval 1 22 v1 rfl rfl) h1
  obtain ⟨A2a, c2a, l2a, A2b, c2b, l2b, A2c, c2c, l2c, rfl, hr2a, hr2b, hr2c, hl2, hs2a, hs2b, hs2c⟩ := argSd (hval 2 25 v2 rfl rfl) h2
  obtain ⟨A3a, c3a, l3a, A3b, c3b, l3b, A3c, c3c, l3c, rfl, hr3a, hr3b, hr3c, hl3, hs3a, hs3b, hs3c⟩ := argSd (hval 3 25 v3 rfl rfl) h3
  refine (match_calls A0 A1 A2a A2b A2c A3a A3b A3c c0 c1 c2a c2b c2c c3a c3b c3c x0 x1 l2a l2b l2c l3a l3b l3c 1048576 W hx0 hx1 hr2a hr2b hr2c hr3a hr3b hr3c (fun q h => Nat.le_trans (hs2a q h) hp2) (fun q h => Nat.le_trans (hs2b q h) hp2) (fun q h => Nat.le_trans (hs2c q h) hp2) (fun q h => Nat.le_trans (hs3a q h) hp3) (fun q h => Nat.le_trans (hs3b q h) hp3) (fun q h => Nat.le_trans (hs3c q h) hp3) (by omega) (by omega)).mono ?_
  rintro e W' ⟨rfl, hbl⟩
  exact ⟨_, rfl, post_true hW' rfl smatch_res rfl rfl rfl smatch_rd hbl⟩
set_option maxRecDepth 100000 in
theorem smatch_lifted (os : Os) (started : os.Started) (H : Type) (enc : TypeId × Value → H) (F : Stop.Interp) :
    ReturnsInHanded {} Try.checked os 3 .any ((Rows.OpenSpec.upto Rows.settleMatchesSpec).pre6 enc Try.prog Try.f3 Rows.settleMatchesUptoRow.domain false) (((Rows.OpenSpec.upto Rows.settleMatchesSpec).at F).post enc Try.prog Try.f3 false true false false) := by
  refine returnsInHanded_of_cond (C := Try.checked) (s := Rows.OpenSpec.upto Rows.settleMatchesSpec) (k := Rows.uptoSmall) rfl smatch_own started (by kernel_rfl) Try.func3
    (OpenSpec.witness (enc := enc) (C := Try.checked) (s := Rows.OpenSpec.upto Rows.settleMatchesSpec) (k := Rows.uptoSmall) rfl false ⟨#[], #[.slice none 0 0, .slice none 0 0, .agg #[.slice none 0 0, .slice none 0 0, .slice none 0 0], .agg #[.slice none 0 0, .slice none 0 0, .slice none 0 0]], []⟩ 8 (by kernel_rfl) (by kernel_rfl) (by kernel_rfl)
      (x := ([.nil, .nil, .agg [.nil, .nil, .nil], .agg [.nil, .nil, .nil]], [], [])) (by kernel_rfl) rfl (by kernel_rfl)) ?_
  intro W base args ds gs before hval hW _ hk _
  exact smatch_contract H enc W base args ds gs before hval hW hk
theorem smatch_both {a b : Bool} (h : a = true) (k : b = true) : (a && b) = true := by rw [h, k]; rfl
set_option maxHeartbeats 8000000 in
set_option maxRecDepth 100000 in
theorem smatch_closed : joinedFacts Try.pinned.checked.prog 3 Try.f3 (Rows.OpenSpec.upto Rows.settleMatchesSpec).bare Rows.settleMatchesUptoRow = true := by
  unfold joinedFacts
  repeat' (with_reducible refine smatch_both ?_ ?_)
  all_goals (as_aux_lemma => kernel_rfl)
theorem smatch_named : Try.pinned.checked.prog.funcNamed Rows.settleMatchesUptoRow.func = some 3 := by kernel_rfl
theorem settleMatchesUpto : Rows.SettleMatchesUptoSaid :=
  OpenClaim.holds_of_cond 3 Try.f3 rfl rfl rfl rfl rfl rfl rfl ⟨rfl, rfl, rfl, rfl, rfl⟩ rfl rfl rfl rfl rfl smatch_named Try.func3 smatch_closed
    (of_decide_eq_true (by as_aux_lemma => kernel_rfl)) (by unfold Func.isWrapper; first | (rw [if_pos (by as_aux_lemma => decide +kernel)]; as_aux_lemma => kernel_rfl) | (rw [if_neg (by as_aux_lemma => decide +kernel)]; exact ⟨rfl, rfl⟩))
    (fun os started H enc _ F => smatch_lifted os started H enc F)
#print axioms settleMatchesUpto
end Go.Proofs.Ytnmmgegnioihmaa
