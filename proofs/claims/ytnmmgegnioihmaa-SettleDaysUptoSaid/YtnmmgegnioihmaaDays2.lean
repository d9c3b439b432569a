/- Daily sums do not depend on the order of the hours, and Rest of daily sums is the sum of the hourly Rests: SettleDays returns true, for arguments of a bulk up to the bound of the upto statement. -/
import Derived.Test.YtnmmgegnioihmaaDays1
import Derived.Test.YtnmmgegnioihmaaOpenA
set_option linter.unusedVariables false
set_option linter.unusedSimpArgs false
namespace Go.Proofs.Ytnmmgegnioihmaa
open Go.ChangeShapes Go.WideShapes Go.ChangeAt Go.RowKit

theorem sday_own : ownKnob Try.prog.godebug = none := by kernel_rfl
theorem sday_rd : ∀ t ∈ Try.f9.params.toList, Try.prog.readableRec t = true ∧ t < Try.prog.types.size := by
  rw [Try.params9]
  intro t ht
  simp only [List.mem_cons, List.not_mem_nil, or_false] at ht
  rcases ht with rfl | rfl | rfl | rfl
  all_goals exact ⟨by kernel_rfl, of_decide_eq_true (by kernel_rfl)⟩
theorem sday_res : Try.f9.resultTypes = #[4] := by kernel_rfl
set_option maxRecDepth 100000 in
theorem sday_contract (H : Type) (enc : TypeId × Value → H) (W : World) (base : Nat) (args : Array Value) (ds gs : List (DataW H)) (before : List MemPlace)
    (hval : ∀ (j : Nat) t v, Try.f9.params[j]? = some t → args[j]? = some v → Value.okWide Try.prog W .any base t v)
    (hW : DataW.Whole enc Try.prog Try.f9.params.toList Rows.settleDaysSpec.vars false W args.toList ds gs before) (hk : Rows.uptoSmall H (ds ++ gs) = true) :
    Calls Try.prog 9 args W fun e W' => ∃ v, e = .returned v ∧ Rows.settleDaysSpec.post enc Try.prog Try.f9 false true false false W args v W' := by
  have hW' := hW
  obtain ⟨p, q, hA0, hV, rfl, hfz, hnd⟩ := hW
  have hA : DataW.TrodAll enc Try.prog W 0 (fun _ => true) true Try.f9.params.toList args.toList ds p := hA0
  rw [Try.params9] at hA hval
  obtain ⟨v0, vs0, d0, ds0, p0, q0, hargs, rfl, rfl, h0, r0⟩ := trodAll_cons hA
  obtain ⟨v1, vs1, d1, ds1, p1, q1, rfl, rfl, rfl, h1, r1⟩ := trodAll_cons r0
  obtain ⟨v2, vs2, d2, ds2, p2, q2, rfl, rfl, rfl, h2, r2⟩ := trodAll_cons r1
  obtain ⟨v3, vs3, d3, ds3, p3, q3, rfl, rfl, rfl, h3, r3⟩ := trodAll_cons r2
  obtain ⟨rfl, rfl, rfl⟩ := trodAll_nil r3
  obtain rfl : args = #[v0, v1, v2, v3] := by cases args; simp_all
  obtain ⟨rfl, rfl⟩ := trodVars_none hV
  simp only [List.append_nil] at hW' hk
  have hb : Rows.uptoBulkAll [d0, d1, d2, d3] ≤ 1048576 := of_decide_eq_true hk
  have hp := fun d hd => Nat.le_trans (part_leB (d := d) (l := [d0, d1, d2, d3]) hd) hb
  have hp0 := hp d0 (by simp)
  have hp1 := hp d1 (by simp)
  have hp2 := hp d2 (by simp)
  have hp3 := hp d3 (by simp)
  obtain ⟨A0, c0, l0, rfl, hr0, hl0, hs0⟩ := argRow (hval 0 23 v0 rfl rfl) h0
  obtain ⟨A1, c1, l1, rfl, hr1, hl1, hs1⟩ := argRow (hval 1 23 v1 rfl rfl) h1
  obtain ⟨A2, c2, l2, rfl, hr2, hl2, hs2⟩ := argRow (hval 2 23 v2 rfl rfl) h2
  obtain ⟨A3, c3, l3, rfl, hr3, hl3, hs3⟩ := argRow (hval 3 23 v3 rfl rfl) h3
  refine (settleDays_calls A0 A1 A2 A3 c0 c1 c2 c3 l0 l1 l2 l3 1048576 W hr0 hr1 hr2 hr3 (fun q h => Nat.le_trans (hs0 q h) hp0) (fun q h => Nat.le_trans (hs1 q h) hp1) (fun q h => Nat.le_trans (hs2 q h) hp2) (fun q h => Nat.le_trans (hs3 q h) hp3) (by decide) (by decide)).mono ?_
  rintro e W' ⟨rfl, hbl⟩
  exact ⟨_, rfl, post_true hW' rfl sday_res rfl rfl rfl sday_rd hbl⟩
set_option maxRecDepth 100000 in
theorem sday_lifted (os : Os) (started : os.Started) (H : Type) (enc : TypeId × Value → H) (F : Stop.Interp) :
    ReturnsInHanded {} Try.checked os 9 .any ((Rows.OpenSpec.upto Rows.settleDaysSpec).pre6 enc Try.prog Try.f9 Rows.settleDaysUptoRow.domain false) (((Rows.OpenSpec.upto Rows.settleDaysSpec).at F).post enc Try.prog Try.f9 false true false false) := by
  refine returnsInHanded_of_cond (C := Try.checked) (s := Rows.OpenSpec.upto Rows.settleDaysSpec) (k := Rows.uptoSmall) rfl sday_own started (by kernel_rfl) Try.func9
    (OpenSpec.witness (enc := enc) (C := Try.checked) (s := Rows.OpenSpec.upto Rows.settleDaysSpec) (k := Rows.uptoSmall) rfl false ⟨#[], #[.slice none 0 0, .slice none 0 0, .slice none 0 0, .slice none 0 0], []⟩ 8 (by kernel_rfl) (by kernel_rfl) (by kernel_rfl)
      (x := ([.nil, .nil, .nil, .nil], [], [])) (by kernel_rfl) rfl (by kernel_rfl)) ?_
  intro W base args ds gs before hval hW _ hk _
  exact sday_contract H enc W base args ds gs before hval hW hk
theorem sday_both {a b : Bool} (h : a = true) (k : b = true) : (a && b) = true := by rw [h, k]; rfl
set_option maxHeartbeats 8000000 in
set_option maxRecDepth 100000 in
theorem sday_closed : joinedFacts Try.pinned.checked.prog 9 Try.f9 (Rows.OpenSpec.upto Rows.settleDaysSpec).bare Rows.settleDaysUptoRow = true := by
  unfold joinedFacts
  repeat' (with_reducible refine sday_both ?_ ?_)
  all_goals (as_aux_lemma => kernel_rfl)
theorem sday_named : Try.pinned.checked.prog.funcNamed Rows.settleDaysUptoRow.func = some 9 := by kernel_rfl
theorem settleDaysUpto : Rows.SettleDaysUptoSaid :=
  OpenClaim.holds_of_cond 9 Try.f9 rfl rfl rfl rfl rfl rfl rfl ⟨rfl, rfl, rfl, rfl, rfl⟩ rfl rfl rfl rfl rfl sday_named Try.func9 sday_closed
    (of_decide_eq_true (by as_aux_lemma => kernel_rfl)) (by unfold Func.isWrapper; first | (rw [if_pos (by as_aux_lemma => decide +kernel)]; as_aux_lemma => kernel_rfl) | (rw [if_neg (by as_aux_lemma => decide +kernel)]; exact ⟨rfl, rfl⟩))
    (fun os started H enc _ F => sday_lifted os started H enc F)
#print axioms settleDaysUpto
end Go.Proofs.Ytnmmgegnioihmaa
