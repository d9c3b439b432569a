/- From what a law reads of its arguments to numbers and vectors; the bulk of what comes in bounds their sizes; what a law that only reads leaves. -/
import Derived.Test.YtnmmgegnioihmaaVecQ
import Derived.Test.YtnmmgegnioihmaaRows
import Derived.ProofKit
import Derived.OpenShut
import Derived.JoinedCond
import Derived.Carry
import Derived.Below
import Derived.ChangeSame
import Derived.Deep.Slices
set_option linter.unusedVariables false
set_option linter.unusedSimpArgs false
namespace Go.Proofs.Ytnmmgegnioihmaa
open Go.ChangeShapes Go.WideShapes Go.ChangeAt Go.RowKit

theorem Try.laidOut : laidOutB Try.prog = true := by kernel_rfl
theorem und_Q : ∃ f0 f1, Try.prog.underlying 43 = some (.struct #[f0, f1]) ∧ f0.type = 41 ∧ f0.offset = 0 ∧ f1.type = 41 ∧ f1.offset = 2 := ⟨_, _, Try.underlying43, rfl, rfl, rfl, rfl⟩
theorem und_Z : ∃ f0 f1, Try.prog.underlying 41 = some (.struct #[f0, f1]) ∧ f0.type = 4 ∧ f0.offset = 0 ∧ f1.type = 39 ∧ f1.offset = 1 := ⟨_, _, Try.underlying41, rfl, rfl, rfl, rfl⟩
theorem cells_Q : Try.prog.cellsOf 43 = 4 := by kernel_rfl
theorem cells_Z : Try.prog.cellsOf 41 = 2 := by kernel_rfl
theorem cells_W : Try.prog.cellsOf 39 = 1 := by kernel_rfl
theorem cells_b : Try.prog.cellsOf 4 = 1 := by kernel_rfl
theorem cells_u : Try.prog.cellsOf 101 = 1 := by kernel_rfl
theorem cells_R : Try.prog.cellsOf 23 = 1 := by kernel_rfl
section
variable {H : Type} {enc : TypeId × Value → H} {W : World}
theorem one_leB (d : DataW H) : 1 ≤ Rows.uptoBulk d := by
  cases d with
  | lit l => cases l <;> simp [Rows.uptoBulk]
  | nil => simp [Rows.uptoBulk]
  | ptr d => simp [Rows.uptoBulk]
  | slice elems spare => simp [Rows.uptoBulk]
  | agg parts => simp [Rows.uptoBulk]
  | iface t d => simp [Rows.uptoBulk]
  | map entries => simp [Rows.uptoBulk]
  | held h => simp [Rows.uptoBulk]
theorem part_leB {d : DataW H} {l : List (DataW H)} (h : d ∈ l) : Rows.uptoBulk d ≤ Rows.uptoBulkAll l := by
  induction l with
  | nil => cases h
  | cons x r ih =>
    simp only [Rows.uptoBulkAll]
    cases List.mem_cons.1 h with
    | inl e => subst e; omega
    | inr e => have := ih e; omega
theorem length_leB (l : List (DataW H)) : l.length ≤ Rows.uptoBulkAll l := by
  induction l with
  | nil => simp [Rows.uptoBulkAll]
  | cons x r ih => have := one_leB x; simp only [Rows.uptoBulkAll, List.length_cons]; omega
theorem openW {fuel : Nat} {cs : List Value} {x : DataW H × List MemPlace} (h : DataW.trod enc Try.prog W 0 (fun _ => true) true fuel 39 cs = some x) :
    ∃ v xs, cs = [v] ∧ IsW W v xs ∧ xs.length + 1 ≤ Rows.uptoBulk x.1 := by
  rcases open_ints Try.underlying39 Try.underlying101 cells_u h with ⟨rfl, rfl⟩ | ⟨a, len, cap, zs, rfl, _, hl, hm, hz, rfl, hc, hw⟩
  · exact ⟨_, [], rfl, ⟨Rng.nil, none, 0, rfl, Row.nil _ _⟩, by simp [Rows.uptoBulk]⟩
  · simp only [if_true] at hz
    have hlen : ((zs.take len).map Int.toNat).length = len := by simp; omega
    have hwf : ∀ z ∈ zs, 0 ≤ z ∧ z < 4294967296 := fun z hzm => by
      have := hw z hzm
      simp [Lit.wf, IntKind.min, IntKind.max, IntKind.signed, IntKind.bits] at this
      omega
    refine ⟨_, (zs.take len).map Int.toNat, rfl, ⟨fun y hy => ?_, some a, cap, by rw [hlen], ⟨by omega, hm, (fun e => by cases e), fun hne => ?_⟩⟩, ?_⟩
    · obtain ⟨z, hz1, rfl⟩ := List.mem_map.1 hy
      have := hwf z (List.mem_of_mem_take hz1)
      omega
    · obtain ⟨b, o, spot⟩ := a
      have hpos : 0 < zs.length := by
        rcases Nat.eq_zero_or_pos zs.length with h0 | h0
        · rw [List.length_eq_zero_iff.1 h0] at hne; simp at hne
        · exact h0
      have h0 := hc 0 hpos
      have hspot : spot = none := by simpa [Addr.add] using World.cell?_spot h0
      subst hspot
      refine ⟨b, o, rfl, fun j y hj => ?_⟩
      rw [List.getElem?_map] at hj
      obtain ⟨z, hz1, rfl⟩ := Option.map_eq_some_iff.1 hj
      rw [List.getElem?_take] at hz1
      split at hz1
      · have hjl := (List.getElem?_eq_some_iff.1 hz1).1
        have hcj := hc j hjl
        rw [Addr.add_lit] at hcj
        rw [hcj, List.getD_eq_getElem?_getD, hz1, Option.getD_some]
        have := hwf z (List.mem_of_getElem? hz1)
        unfold encW
        rw [Int.toNat_of_nonneg this.1]
      · cases hz1
    · have h1 := length_leB (lits (H := H) .u32 (zs.take len))
      have h2 : (lits (H := H) .u32 (zs.take len)).length = len := by simp [lits]; omega
      simp only [Rows.uptoBulk]
      omega
theorem openZ {fuel : Nat} {cs : List Value} {x : DataW H × List MemPlace} (h : DataW.trod enc Try.prog W 0 (fun _ => true) true fuel 41 cs = some x) :
    ∃ (z : Zr) (v : Value), cs = [.bool z.neg, v] ∧ IsW W v z.ws ∧ z.ws.length + 3 ≤ Rows.uptoBulk x.1 := by
  obtain ⟨f0, f1, hu, e0, o0, e1, o1⟩ := und_Z
  obtain ⟨y0, y1, n, rfl, hl, h0, h1⟩ := trod_struct2 hu h
  rw [cells_Z] at hl
  rw [e0, o0, cells_b] at h0
  rw [e1, o1, cells_W] at h1
  match cs, hl with
  | [c0, c1], _ =>
    simp only [List.drop_zero, List.take_succ_cons, List.take_zero, List.drop_succ_cons] at h0 h1
    obtain ⟨b, eb, rfl⟩ := DataW.trod_bool Try.underlying4 h0
    obtain ⟨v, xs, ev, hv, hs⟩ := openW h1
    cases eb; cases ev
    exact ⟨⟨b, xs⟩, _, rfl, hv, by simp only [Rows.uptoBulk, Rows.uptoBulkAll]; omega⟩
theorem openQ {fuel : Nat} {cs : List Value} {x : DataW H × List MemPlace} (h : DataW.trod enc Try.prog W 0 (fun _ => true) true fuel 43 cs = some x) :
    ∃ (q : Qr) (v1 v2 : Value), cs = [.bool q.n.neg, v1, .bool q.d.neg, v2] ∧ IsW W v1 q.n.ws ∧ IsW W v2 q.d.ws ∧ q.S ≤ Rows.uptoBulk x.1 := by
  obtain ⟨f0, f1, hu, e0, o0, e1, o1⟩ := und_Q
  obtain ⟨y0, y1, n, rfl, hl, h0, h1⟩ := trod_struct2 hu h
  rw [cells_Q] at hl
  rw [e0, o0, cells_Z] at h0
  rw [e1, o1, cells_Z] at h1
  match cs, hl with
  | [c0, c1, c2, c3], _ =>
    simp only [List.drop_zero, List.take_succ_cons, List.take_zero, List.drop_succ_cons] at h0 h1
    obtain ⟨z0, v0, ez0, hv0, hs0⟩ := openZ h0
    obtain ⟨z1, v1, ez1, hv1, hs1⟩ := openZ h1
    cases ez0; cases ez1
    exact ⟨⟨z0, z1⟩, _, _, rfl, hv0, hv1, by simp only [Rows.uptoBulk, Rows.uptoBulkAll, Qr.S]; omega⟩
set_option maxRecDepth 100000 in
/-- an argument that is a number -/
theorem argQ {base : Nat} {v : Value} {d : DataW H} {ps : List MemPlace} (hv : Value.okWide Try.prog W .any base 43 v) (h : DataW.Trod enc Try.prog W 0 (fun _ => true) true 43 v d ps) : ∃ q, IsQ W v q ∧ q.S ≤ Rows.uptoBulk d := by
  obtain ⟨cs, rfl, hsz⟩ := okWide_struct Try.underlying43 hv
  obtain ⟨fuel, hf⟩ := h
  obtain ⟨q, v1, v2, e, h1, h2, hs⟩ := openQ hf
  have e' : cs.toList = [.bool q.n.neg, v1, .bool q.d.neg, v2] := by simpa [Value.cells] using e
  refine ⟨q, ⟨v1, v2, ?_, h1, h2⟩, hs⟩
  congr 1
  apply Array.ext'
  rw [e']
theorem cell_of_cells? {a : Addr} {n : Nat} {cs : List Value} (h : W.cells? 0 a n = some cs) : cs.length = n ∧ ∀ i, i < n → W.cell? (a.add i) = cs[i]? := by
  obtain ⟨_, h1, h2⟩ := World.cells?_some h
  exact ⟨h1, h2⟩
/-- a vector -/
theorem openR {fuel : Nat} {cs : List Value} {x : DataW H × List MemPlace} (h : DataW.trod enc Try.prog W 0 (fun _ => true) true fuel 23 cs = some x) :
    ∃ v l, cs = [v] ∧ IsR W v l ∧ l.length + 1 ≤ Rows.uptoBulk x.1 ∧ ∀ q ∈ l, q.S ≤ Rows.uptoBulk x.1 := by
  rcases DataW.trod_slice Try.underlying23 h with ⟨rfl, rfl⟩ | ⟨a, len, cap, elems, rest, n, rfl, rfl, rfl, _, hl, hm, hel, hat, _⟩
  · exact ⟨_, [], rfl, IsR.nil W, by simp [Rows.uptoBulk], fun q hq => by cases hq⟩
  · rw [cells_Q] at hat
    have hone : ∀ i, i < len → ∃ (q : Qr) (v1 v2 : Value), W.cell? (a.add (i * 4)) = some (.bool q.n.neg) ∧ W.cell? ((a.add (i * 4)).add 1) = some v1 ∧ W.cell? ((a.add (i * 4)).add 2) = some (.bool q.d.neg) ∧ W.cell? ((a.add (i * 4)).add 3) = some v2 ∧ IsW W v1 q.n.ws ∧ IsW W v2 q.d.ws ∧ q.S ≤ Rows.uptoBulkAll (elems.map fun x => x.fst) := fun i hi => by
      have h1 := hat i hi
      have hy : elems[i]? = some (elems[i]'(by omega)) := List.getElem?_eq_getElem (by omega)
      rw [hy] at h1
      simp only [Option.bind_eq_some_iff] at h1
      obtain ⟨cs', hc, ht⟩ := h1
      obtain ⟨q, v1, v2, e, w1, w2, hs⟩ := openQ ht
      obtain ⟨_, hcell⟩ := cell_of_cells? hc
      subst e
      have h0 := hcell 0 (by omega)
      rw [show (a.add (i * 4)).add 0 = a.add (i * 4) by simp [Addr.add]] at h0
      refine ⟨q, v1, v2, h0, hcell 1 (by omega), hcell 2 (by omega), hcell 3 (by omega), w1, w2, Nat.le_trans hs (part_leB ?_)⟩
      exact List.mem_map.2 ⟨_, List.getElem_mem (by omega), rfl⟩
    let f : Nat → Qr := fun i => if h : i < len then Classical.choose (hone i h) else zeroQ
    have hf : ∀ i (h : i < len), f i = Classical.choose (hone i h) := fun i h => by simp only [f, dif_pos h]
    have hll : ((List.range len).map f).length = len := by simp
    have hbk : Rows.uptoBulkAll (elems.map fun x => x.fst) + 1 ≤ Rows.uptoBulk (H := H) (.slice (elems.map fun x => x.fst) (rest.map fun x => x.fst)) := by simp only [Rows.uptoBulk]; omega
    refine ⟨_, (List.range len).map f, rfl, ⟨some a, cap, by rw [hll], ⟨by omega, hm, (fun e => by cases e), fun hne => ?_⟩⟩, ?_, fun q hq => ?_⟩
    · have hpos : 0 < len := by
        rcases Nat.eq_zero_or_pos len with h0 | h0
        · subst h0; simp at hne
        · exact h0
      obtain ⟨b, o, spot⟩ := a
      obtain ⟨q, v1, v2, h0, _⟩ := hone 0 hpos
      have hspot : spot = none := by simpa [Addr.add] using World.cell?_spot h0
      subst hspot
      refine ⟨b, o, rfl, fun j q hj => ?_⟩
      rw [List.getElem?_map] at hj
      obtain ⟨i, hi, rfl⟩ := Option.map_eq_some_iff.1 hj
      have hjl : j < len := by simpa using (List.getElem?_eq_some_iff.1 hi).1
      rw [List.getElem?_range hjl] at hi
      cases hi
      have spec := Classical.choose_spec (hone j hjl)
      rw [← hf j hjl] at spec
      generalize f j = q at spec ⊢
      obtain ⟨v1, v2, c0, c1, c2, c3, w1, w2, _⟩ := spec
      simp only [Addr.add_lit] at c0 c1 c2 c3
      exact ⟨v1, v2, c0, c1, c2, c3, w1, w2⟩
    · have := length_leB (elems.map fun x => x.fst)
      rw [List.length_map] at this
      rw [hll]; dsimp only; omega
    · obtain ⟨i, hi, rfl⟩ := List.mem_map.1 hq
      have hil : i < len := by simpa using hi
      have spec := Classical.choose_spec (hone i hil)
      rw [← hf i hil] at spec
      generalize f i = q at spec ⊢
      obtain ⟨v1, v2, c0, c1, c2, c3, w1, w2, hs⟩ := spec
      dsimp only
      omega
theorem argR {v : Value} {d : DataW H} {ps : List MemPlace} (h : DataW.Trod enc Try.prog W 0 (fun _ => true) true 23 v d ps) (hv : v.cells.toList = [v]) : ∃ l, IsR W v l ∧ l.length + 1 ≤ Rows.uptoBulk d ∧ ∀ q ∈ l, q.S ≤ Rows.uptoBulk d := by
  obtain ⟨fuel, hf⟩ := h
  obtain ⟨v', l, e, h1, h2, h3⟩ := openR hf
  rw [hv] at e
  cases e
  exact ⟨l, h1, h2, h3⟩
/-- the arguments of a call that only reads them read as they did -/
theorem TrodAll_stays {W' : World} {sp : Nat → Bool} : ∀ {ts : List TypeId} {vs : List Value} {ds : List (DataW H)} {ps : List MemPlace}, (∀ t ∈ ts, Try.prog.readableRec t = true ∧ t < Try.prog.types.size) → DataW.TrodAll enc Try.prog W 0 (fun _ => true) true ts vs ds ps →
    (∀ p ∈ ps, W.sameAt W' p) → (∀ p ∈ ps, sp p.block = true) → DataW.TrodAll enc Try.prog W' 0 sp true ts vs ds ps
  | [], [], [], _, _, h, _, _ => h
  | t :: ts, v :: vs, d :: ds, ps, ht, ⟨p, q, h, hs, e⟩, hsm, hsp => by
    subst e
    exact ⟨p, q, WideElems.Trod_stays Try.laidOut (ht t List.mem_cons_self).1 (ht t List.mem_cons_self).2 h (fun x hx => hsm x (List.mem_append_left _ hx)) (fun x hx => hsp x (List.mem_append_left _ hx)),
      TrodAll_stays (fun t' h' => ht t' (List.mem_cons_of_mem _ h')) hs (fun x hx => hsm x (List.mem_append_right _ hx)) (fun x hx => hsp x (List.mem_append_right _ hx)), rfl⟩
/-- what a law leaves that returns true and reads its arguments alone -/
theorem post_true {f : Func} {s : ChangeSpec} {W' : World} {args : Array Value} {ds gs : List (DataW H)} {before : List MemPlace} (hW : DataW.Whole enc Try.prog f.params.toList s.vars false W args.toList ds gs before)
    (hvars : s.vars = []) (hr : f.resultTypes = #[4]) (hfr : (s.fn H (ds ++ gs)).results = [.lit (.bool true)]) (hfa : (s.fn H (ds ++ gs)).args = ds) (hfv : (s.fn H (ds ++ gs)).vars = [])
    (hrd : ∀ t ∈ f.params.toList, Try.prog.readableRec t = true ∧ t < Try.prog.types.size) (hb : Below W.heap.size W W') : s.post enc Try.prog f false true false false W args (.bool true) W' := by
  have hlt : ∀ p ∈ before, p.block < W.heap.size := fun p hp => hW.lt p hp
  have hold : ∀ p ∈ before, (fun b => decide (b < W.heap.size)) p.block = true := fun p hp => by simpa using hlt p hp
  have hW' := hW
  obtain ⟨p, q, hA, hV, rfl, hz, hn⟩ := hW
  rw [hvars] at hV
  obtain ⟨rfl, rfl⟩ := trodVars_none hV
  rw [List.append_nil] at hlt hold hz
  have hargs : ∀ sp : Nat → Bool, (∀ x ∈ p, sp x.block = true) → DataW.TrodAll enc Try.prog W' 0 sp true f.params.toList args.toList ds p := fun sp hsp => TrodAll_stays hrd hA (fun x hx => hb.same (hlt x hx)) hsp
  refine ⟨ds, [], p ++ [], [], p, [], hW', ?_, ?_, ?_, World.keptBut_mono (fun x hx => ⟨hx, Or.inr (by simpa using hx)⟩) (hb.frame (· ∈ p ++ [])), fun h => by cases h⟩
  · rw [hfr, hr]; exact trodAll_cons_mk (shut_bool Try.underlying4 _) trodAll_mk0
  · rw [hfa]; exact hargs _ hold
  · rw [hfv, hvars]; rfl
end
end Go.Proofs.Ytnmmgegnioihmaa
namespace Go.Proofs.Ytnmmgegnioihmaa
open Go.ChangeShapes Go.WideShapes Go.ChangeAt Go.RowKit

theorem cells_i : Try.prog.cellsOf 3 = 1 := by kernel_rfl
theorem und_Sd : ∃ f0 f1 f2, Try.prog.underlying 25 = some (.struct #[f0, f1, f2]) ∧ f0.type = 23 ∧ f0.offset = 0 ∧ f1.type = 23 ∧ f1.offset = 1 ∧ f2.type = 23 ∧ f2.offset = 2 := ⟨_, _, _, Try.underlying25, rfl, rfl, rfl, rfl, rfl, rfl⟩
theorem cells_Sd : Try.prog.cellsOf 25 = 3 := by kernel_rfl
section
variable {H : Type} {enc : TypeId × Value → H} {W : World}
theorem openI {fuel : Nat} {cs : List Value} {x : DataW H × List MemPlace} (h : DataW.trod enc Try.prog W 0 (fun _ => true) true fuel 22 cs = some x) :
    ∃ (A : Option Addr) (c : Nat) (xs : List Int), cs = [.slice A xs.length c] ∧ Row enc64 W A c xs ∧ (∀ x ∈ xs, -9223372036854775808 ≤ x ∧ x ≤ 9223372036854775807) ∧ xs.length + 1 ≤ Rows.uptoBulk x.1 := by
  rcases open_ints Try.underlying22 Try.underlying3 cells_i h with ⟨rfl, rfl⟩ | ⟨a, len, cap, zs, rfl, _, hl, hm, hz, rfl, hc, hw⟩
  · exact ⟨none, 0, [], rfl, Row.nil _ _, (fun x hx => by cases hx), by simp [Rows.uptoBulk]⟩
  · simp only [if_true] at hz
    have hlen : (zs.take len).length = len := by simp; omega
    refine ⟨some a, cap, zs.take len, by rw [hlen], ⟨by omega, hm, (fun e => by cases e), fun hne => ?_⟩, fun z hz => ?_, ?_⟩
    · obtain ⟨b, o, spot⟩ := a
      have hpos : 0 < zs.length := by
        rcases Nat.eq_zero_or_pos zs.length with h0 | h0
        · rw [List.length_eq_zero_iff.1 h0] at hne; simp at hne
        · exact h0
      have h0 := hc 0 hpos
      have hspot : spot = none := by simpa [Addr.add] using World.cell?_spot h0
      subst hspot
      refine ⟨b, o, rfl, fun j y hj => ?_⟩
      rw [List.getElem?_take] at hj
      split at hj
      · have hjl := (List.getElem?_eq_some_iff.1 hj).1
        have hcj := hc j hjl
        rw [Addr.add_lit] at hcj
        rw [hcj, List.getD_eq_getElem?_getD, hj, Option.getD_some]
        rfl
      · cases hj
    · have := hw z (List.mem_of_mem_take hz)
      simp [Lit.wf, IntKind.min, IntKind.max, IntKind.signed, IntKind.bits] at this
      omega
    · have h1 := length_leB (lits (H := H) .i64 (zs.take len))
      have h2 : (lits (H := H) .i64 (zs.take len)).length = len := by simp [lits]; omega
      simp only [Rows.uptoBulk]
      rw [hlen]
      omega
set_option maxRecDepth 100000 in
theorem argI {base : Nat} {v : Value} {d : DataW H} {ps : List MemPlace} (hv : Value.okWide Try.prog W .any base 22 v) (h : DataW.Trod enc Try.prog W 0 (fun _ => true) true 22 v d ps) :
    ∃ (A : Option Addr) (c : Nat) (xs : List Int), v = .slice A xs.length c ∧ Row enc64 W A c xs ∧ (∀ x ∈ xs, -9223372036854775808 ≤ x ∧ x ≤ 9223372036854775807) ∧ xs.length + 1 ≤ Rows.uptoBulk d := by
  obtain ⟨a, len, cap, rfl⟩ := okWide_slice Try.underlying22 hv
  obtain ⟨fuel, hf⟩ := h
  obtain ⟨A, c, xs, e, h1, h2, h3⟩ := openI hf
  simp [Value.cells] at e
  exact ⟨A, c, xs, by simp [e], h1, h2, h3⟩
set_option maxRecDepth 100000 in
theorem argRow {base : Nat} {v : Value} {d : DataW H} {ps : List MemPlace} (hv : Value.okWide Try.prog W .any base 23 v) (h : DataW.Trod enc Try.prog W 0 (fun _ => true) true 23 v d ps) :
    ∃ (A : Option Addr) (c : Nat) (l : List Qr), v = .slice A l.length c ∧ QRow W A c l ∧ l.length + 1 ≤ Rows.uptoBulk d ∧ ∀ q ∈ l, q.S ≤ Rows.uptoBulk d := by
  obtain ⟨a, len, cap, rfl⟩ := okWide_slice Try.underlying23 hv
  obtain ⟨l, ⟨A, c, e, h1⟩, h2, h3⟩ := argR h rfl
  exact ⟨A, c, l, e, h1, h2, h3⟩
set_option maxRecDepth 100000 in
theorem argSd {base : Nat} {v : Value} {d : DataW H} {ps : List MemPlace} (hv : Value.okWide Try.prog W .any base 25 v) (h : DataW.Trod enc Try.prog W 0 (fun _ => true) true 25 v d ps) :
    ∃ (A1 : Option Addr) (c1 : Nat) (l1 : List Qr) (A2 : Option Addr) (c2 : Nat) (l2 : List Qr) (A3 : Option Addr) (c3 : Nat) (l3 : List Qr), v = .agg #[.slice A1 l1.length c1, .slice A2 l2.length c2, .slice A3 l3.length c3] ∧ QRow W A1 c1 l1 ∧ QRow W A2 c2 l2 ∧ QRow W A3 c3 l3 ∧
      (l1.length ≤ Rows.uptoBulk d ∧ l2.length ≤ Rows.uptoBulk d ∧ l3.length ≤ Rows.uptoBulk d) ∧ (∀ q ∈ l1, q.S ≤ Rows.uptoBulk d) ∧ (∀ q ∈ l2, q.S ≤ Rows.uptoBulk d) ∧ ∀ q ∈ l3, q.S ≤ Rows.uptoBulk d := by
  obtain ⟨cs, rfl, hsz⟩ := okWide_struct Try.underlying25 hv
  obtain ⟨fuel, hf⟩ := h
  obtain ⟨f0, f1, f2, hu, e0, o0, e1, o1, e2, o2⟩ := und_Sd
  obtain ⟨xs, n, _, hx, _, hlen, hg⟩ := DataW.trod_struct hu hf
  rw [cells_Sd] at hsz
  obtain ⟨l⟩ := cs
  match l, hsz with
  | [a0, a1, a2], _ =>
    match xs, hlen with
    | [y0, y1, y2], _ =>
      simp only [Prod.mk.injEq] at hx
      obtain ⟨hd, _⟩ := hx
      have g0 := hg 0 f0 rfl
      have g1 := hg 1 f1 rfl
      have g2 := hg 2 f2 rfl
      rw [e0, o0, cells_R] at g0
      rw [e1, o1, cells_R] at g1
      rw [e2, o2, cells_R] at g2
      simp [Value.cells] at g0 g1 g2
      obtain ⟨v0, l0, ev0, ⟨A1, c1, rfl, r0⟩, k0, s0⟩ := openR g0
      obtain ⟨v1, l1, ev1, ⟨A2, c2, rfl, r1⟩, k1, s1⟩ := openR g1
      obtain ⟨v2, l2, ev2, ⟨A3, c3, rfl, r2⟩, k2, s2⟩ := openR g2
      cases ev0; cases ev1; cases ev2
      subst hd
      have hb : ∀ {y : DataW H × List MemPlace}, y ∈ [y0, y1, y2] → Rows.uptoBulk y.1 ≤ Rows.uptoBulk (DataW.agg (List.map (fun x => x.fst) [y0, y1, y2])) := fun hy => by
        have := part_leB (List.mem_map.2 ⟨_, hy, rfl⟩ : _ ∈ List.map (fun x : DataW H × List MemPlace => x.fst) [y0, y1, y2])
        simp only [Rows.uptoBulk]
        omega
      have b0 := hb (y := y0) (by simp)
      have b1 := hb (y := y1) (by simp)
      have b2 := hb (y := y2) (by simp)
      exact ⟨A1, c1, l0, A2, c2, l1, A3, c3, l2, rfl, r0, r1, r2, ⟨by omega, by omega, by omega⟩, fun q hq => Nat.le_trans (s0 q hq) b0, fun q hq => Nat.le_trans (s1 q hq) b1, fun q hq => Nat.le_trans (s2 q hq) b2⟩
end
end Go.Proofs.Ytnmmgegnioihmaa
