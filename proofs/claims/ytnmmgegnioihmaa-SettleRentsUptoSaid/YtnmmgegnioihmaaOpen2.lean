/- From what a law reads of its arguments to slices of integers and markets. -/
import Derived.Test.YtnmmgegnioihmaaOpen
import Derived.Test.YtnmmgegnioihmaaVec1
set_option linter.unusedVariables false
set_option linter.unusedSimpArgs false
namespace Go.Proofs.Ytnmmgegnioihmaa
open Go.ChangeShapes Go.WideShapes Go.ChangeAt Go.RowKit

theorem cells_i : Try.prog.cellsOf 3 = 1 := by kernel_rfl
theorem und_Sd : ∃ f0 f1 f2, Try.prog.underlying 25 = some (.struct #[f0, f1, f2]) ∧ f0.type = 23 ∧ f0.offset = 0 ∧ f1.type = 23 ∧ f1.offset = 1 ∧ f2.type = 23 ∧ f2.offset = 2 := ⟨_, _, _, Try.underlying25, rfl, rfl, rfl, rfl, rfl, rfl⟩
theorem cells_Sd : Try.prog.cellsOf 25 = 3 := by kernel_rfl
section
variable {H : Type} {enc : TypeId × Value → H} {W : World}
theorem openI {fuel : Nat} {cs : List Value} {x : DataW H × List MemPlace} (h : DataW.trod enc Try.prog W 0 (fun _ => true) true fuel 22 cs = some x) :
    ∃ (A : Option Addr) (c : Nat) (xs : List Int), cs = [.slice A xs.length c] ∧ Row enc64 W A c xs ∧ (∀ x ∈ xs, -9223372036854775808 ≤ x ∧ x ≤ 9223372036854775807) ∧ xs.length + 1 ≤ Rows.uptoBulk x.1 := by
  rcases open_ints Try.underlying22 Try.underlying3 cells_i h with ⟨rfl, rfl⟩ | ⟨a, len, cap, zs, rfl, _, hl, hm, hz, rfl, hc, hw⟩
  · exact ⟨none, 0, [], rfl, Row.nil _ _, (fun x hx => by cases hx), by simp [Rows.uptoBulk]⟩
  · simp only [if_true] at hz
    have hlen : (zs.take len).length = len := by simp; omega
    refine ⟨some a, cap, zs.take len, by rw [hlen], ⟨by omega, hm, (fun e => by cases e), fun hne => ?_⟩, fun z hz => ?_, ?_⟩
    · obtain ⟨b, o, spot⟩ := a
      have hpos : 0 < zs.length := by
        rcases Nat.eq_zero_or_pos zs.length with h0 | h0
        · rw [List.length_eq_zero_iff.1 h0] at hne; simp at hne
        · exact h0
      have h0 := hc 0 hpos
      have hspot : spot = none := by simpa [Addr.add] using World.cell?_spot h0
      subst hspot
      refine ⟨b, o, rfl, fun j y hj => ?_⟩
      rw [List.getElem?_take] at hj
      split at hj
      · have hjl := (List.getElem?_eq_some_iff.1 hj).1
        have hcj := hc j hjl
        rw [Addr.add_lit] at hcj
        rw [hcj, List.getD_eq_getElem?_getD, hj, Option.getD_some]
        rfl
      · cases hj
    · have := hw z (List.mem_of_mem_take hz)
      simp [Lit.wf, IntKind.min, IntKind.max, IntKind.signed, IntKind.bits] at this
      omega
    · have h1 := length_leB (lits (H := H) .i64 (zs.take len))
      have h2 : (lits (H := H) .i64 (zs.take len)).length = len := by simp [lits]; omega
      simp only [Rows.uptoBulk]
      rw [hlen]
      omega
set_option maxRecDepth 100000 in
theorem argI {base : Nat} {v : Value} {d : DataW H} {ps : List MemPlace} (hv : Value.okWide Try.prog W .any base 22 v) (h : DataW.Trod enc Try.prog W 0 (fun _ => true) true 22 v d ps) :
    ∃ (A : Option Addr) (c : Nat) (xs : List Int), v = .slice A xs.length c ∧ Row enc64 W A c xs ∧ (∀ x ∈ xs, -9223372036854775808 ≤ x ∧ x ≤ 9223372036854775807) ∧ xs.length + 1 ≤ Rows.uptoBulk d := by
  obtain ⟨a, len, cap, rfl⟩ := okWide_slice Try.underlying22 hv
  obtain ⟨fuel, hf⟩ := h
  obtain ⟨A, c, xs, e, h1, h2, h3⟩ := openI hf
  simp [Value.cells] at e
  exact ⟨A, c, xs, by simp [e], h1, h2, h3⟩
set_option maxRecDepth 100000 in
theorem argRow {base : Nat} {v : Value} {d : DataW H} {ps : List MemPlace} (hv : Value.okWide Try.prog W .any base 23 v) (h : DataW.Trod enc Try.prog W 0 (fun _ => true) true 23 v d ps) :
    ∃ (A : Option Addr) (c : Nat) (l : List Qr), v = .slice A l.length c ∧ QRow W A c l ∧ l.length + 1 ≤ Rows.uptoBulk d ∧ ∀ q ∈ l, q.S ≤ Rows.uptoBulk d := by
  obtain ⟨a, len, cap, rfl⟩ := okWide_slice Try.underlying23 hv
  obtain ⟨l, ⟨A, c, e, h1⟩, h2, h3⟩ := argR h rfl
  exact ⟨A, c, l, e, h1, h2, h3⟩
set_option maxRecDepth 100000 in
theorem argSd {base : Nat} {v : Value} {d : DataW H} {ps : List MemPlace} (hv : Value.okWide Try.prog W .any base 25 v) (h : DataW.Trod enc Try.prog W 0 (fun _ => true) true 25 v d ps) :
    ∃ (A1 : Option Addr) (c1 : Nat) (l1 : List Qr) (A2 : Option Addr) (c2 : Nat) (l2 : List Qr) (A3 : Option Addr) (c3 : Nat) (l3 : List Qr), v = .agg #[.slice A1 l1.length c1, .slice A2 l2.length c2, .slice A3 l3.length c3] ∧ QRow W A1 c1 l1 ∧ QRow W A2 c2 l2 ∧ QRow W A3 c3 l3 ∧
      (l1.length ≤ Rows.uptoBulk d ∧ l2.length ≤ Rows.uptoBulk d ∧ l3.length ≤ Rows.uptoBulk d) ∧ (∀ q ∈ l1, q.S ≤ Rows.uptoBulk d) ∧ (∀ q ∈ l2, q.S ≤ Rows.uptoBulk d) ∧ ∀ q ∈ l3, q.S ≤ Rows.uptoBulk d := by
  obtain ⟨cs, rfl, hsz⟩ := okWide_struct Try.underlying25 hv
  obtain ⟨fuel, hf⟩ := h
  obtain ⟨f0, f1, f2, hu, e0, o0, e1, o1, e2, o2⟩ := und_Sd
  obtain ⟨xs, n, _, hx, _, hlen, hg⟩ := DataW.trod_struct hu hf
  rw [cells_Sd] at hsz
  obtain ⟨l⟩ := cs
  match l, hsz with
  | [a0, a1, a2], _ =>
    match xs, hlen with
    | [y0, y1, y2], _ =>
      simp only [Prod.mk.injEq] at hx
      obtain ⟨hd, _⟩ := hx
      have g0 := hg 0 f0 rfl
      have g1 := hg 1 f1 rfl
      have g2 := hg 2 f2 rfl
      rw [e0, o0, cells_R] at g0
      rw [e1, o1, cells_R] at g1
      rw [e2, o2, cells_R] at g2
      simp [Value.cells] at g0 g1 g2
      obtain ⟨v0, l0, ev0, ⟨A1, c1, rfl, r0⟩, k0, s0⟩ := openR g0
      obtain ⟨v1, l1, ev1, ⟨A2, c2, rfl, r1⟩, k1, s1⟩ := openR g1
      obtain ⟨v2, l2, ev2, ⟨A3, c3, rfl, r2⟩, k2, s2⟩ := openR g2
      cases ev0; cases ev1; cases ev2
      subst hd
      have hb : ∀ {y : DataW H × List MemPlace}, y ∈ [y0, y1, y2] → Rows.uptoBulk y.1 ≤ Rows.uptoBulk (DataW.agg (List.map (fun x => x.fst) [y0, y1, y2])) := fun hy => by
        have := part_leB (List.mem_map.2 ⟨_, hy, rfl⟩ : _ ∈ List.map (fun x : DataW H × List MemPlace => x.fst) [y0, y1, y2])
        simp only [Rows.uptoBulk]
        omega
      have b0 := hb (y := y0) (by simp)
      have b1 := hb (y := y1) (by simp)
      have b2 := hb (y := y2) (by simp)
      exact ⟨A1, c1, l0, A2, c2, l1, A3, c3, l2, rfl, r0, r1, r2, ⟨by omega, by omega, by omega⟩, fun q hq => Nat.le_trans (s0 q hq) b0, fun q hq => Nat.le_trans (s1 q hq) b1, fun q hq => Nat.le_trans (s2 q hq) b2⟩
end
end Go.Proofs.Ytnmmgegnioihmaa
