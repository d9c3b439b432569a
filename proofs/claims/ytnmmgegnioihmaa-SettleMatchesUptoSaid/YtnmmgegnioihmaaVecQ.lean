/- Rows of rationals, four cells an element: what a slice of them holds, a row of the call's own, append onto it. -/
import Derived.Test.YtnmmgegnioihmaaFracA
import Derived.Deep.AppendLies
import Derived.BigRegion
set_option linter.unusedVariables false
set_option linter.unusedSimpArgs false
namespace Go.Proofs.Ytnmmgegnioihmaa
open Go.RowKit

/-- A slice's elements, each of four cells -/
structure QRow (w : World) (A : Option Addr) (c : Nat) (l : List Qr) : Prop where
  le : l.length ≤ c
  mx : c ≤ maxLen
  nl : A = none → c = 0
  rd : l ≠ [] → ∃ b off, A = some ⟨b, off, none⟩ ∧ ∀ (j : Nat) q, l[j]? = some q → ∃ v1 v2, w.cell? ⟨b, off + j * 4, none⟩ = some (.bool q.n.neg) ∧ w.cell? ⟨b, off + j * 4 + 1, none⟩ = some v1 ∧
    w.cell? ⟨b, off + j * 4 + 2, none⟩ = some (.bool q.d.neg) ∧ w.cell? ⟨b, off + j * 4 + 3, none⟩ = some v2 ∧ IsW w v1 q.n.ws ∧ IsW w v2 q.d.ws
def IsR (w : World) (v : Value) (l : List Qr) : Prop := ∃ A c, v = .slice A l.length c ∧ QRow w A c l
theorem QRow.nil (w : World) : QRow w none 0 [] := ⟨Nat.zero_le _, by unfold maxLen; omega, fun _ => rfl, fun h => (h rfl).elim⟩
theorem IsR.nil (w : World) : IsR w (.slice none 0 0) [] := ⟨_, _, rfl, QRow.nil w⟩
theorem QRow.below {w w' : World} {A : Option Addr} {c : Nat} {l : List Qr} (h : QRow w A c l) (hb : Below w.heap.size w w') : QRow w' A c l := by
  refine ⟨h.le, h.mx, h.nl, fun hx => ?_⟩
  obtain ⟨b, off, e, hc⟩ := h.rd hx
  refine ⟨b, off, e, fun j q hj => ?_⟩
  obtain ⟨v1, v2, c0, c1, c2, c3, h1, h2⟩ := hc j q hj
  exact ⟨v1, v2, bl_cell hb c0, bl_cell hb c1, bl_cell hb c2, bl_cell hb c3, h1.below hb, h2.below hb⟩
theorem IsR.below {w w' : World} {v : Value} {l : List Qr} (h : IsR w v l) (hb : Below w.heap.size w w') : IsR w' v l := by
  obtain ⟨A, c, e, h⟩ := h; exact ⟨A, c, e, h.below hb⟩
theorem IsR.slice {w : World} {v : Value} {l : List Qr} (h : IsR w v l) : ∃ A c, v = .slice A l.length c := by obtain ⟨A, c, e, h⟩ := h; exact ⟨A, c, e⟩
theorem IsR.row {w : World} {A : Option Addr} {n c : Nat} {l : List Qr} (h : IsR w (.slice A n c) l) : n = l.length ∧ QRow w A c l := by
  obtain ⟨A', c', e, h⟩ := h
  injection e with e1 e2 e3
  subst e1; subst e3
  exact ⟨e2, h⟩
theorem QRow.isR {w : World} {A : Option Addr} {c : Nat} {l : List Qr} (h : QRow w A c l) : IsR w (.slice A l.length c) l := ⟨A, c, rfl, h⟩
theorem QRow.none_nil {w : World} {c : Nat} {l : List Qr} (h : QRow w none c l) : l = [] ∧ c = 0 := by
  refine ⟨?_, h.nl rfl⟩
  cases l with
  | nil => rfl
  | cons x l => obtain ⟨b, off, e, _⟩ := h.rd (by simp); cases e
/-- an element -/
theorem QRow.at {w : World} {A : Option Addr} {c : Nat} {l : List Qr} (h : QRow w A c l) {k : Nat} (hk : k < l.length) : ∃ b off A1 c1 A2 c2, A = some ⟨b, off, none⟩ ∧
    w.cell? ⟨b, off + k * 4, none⟩ = some (.bool (l.getD k zeroQ).n.neg) ∧ w.cell? ⟨b, off + k * 4 + 1, none⟩ = some (.slice A1 (l.getD k zeroQ).n.ws.length c1) ∧
    w.cell? ⟨b, off + k * 4 + 2, none⟩ = some (.bool (l.getD k zeroQ).d.neg) ∧ w.cell? ⟨b, off + k * 4 + 3, none⟩ = some (.slice A2 (l.getD k zeroQ).d.ws.length c2) ∧
    IsQ w (.agg #[.bool (l.getD k zeroQ).n.neg, .slice A1 (l.getD k zeroQ).n.ws.length c1, .bool (l.getD k zeroQ).d.neg, .slice A2 (l.getD k zeroQ).d.ws.length c2]) (l.getD k zeroQ) := by
  obtain ⟨b, off, e, hc⟩ := h.rd (by rintro rfl; simp at hk)
  obtain ⟨v1, v2, c0, c1, c2, c3, h1, h2⟩ := hc k (l.getD k zeroQ) (by rw [List.getD_eq_getElem?_getD, List.getElem?_eq_getElem hk]; rfl)
  obtain ⟨r1, A1, d1, rfl, w1⟩ := h1
  obtain ⟨r2, A2, d2, rfl, w2⟩ := h2
  exact ⟨b, off, A1, d1, A2, d2, e, c0, c1, c2, c3, ⟨_, _, rfl, ⟨r1, A1, d1, rfl, w1⟩, ⟨r2, A2, d2, rfl, w2⟩⟩⟩
theorem cells_of_cell {w : World} {p : Addr} {v : Value} (h : w.cell? p = some v) : ∃ cs T fr, w.heap[p.block]? = some (Obj.cells cs T fr) := by
  unfold World.cell? at h
  cases hb : w.heap[p.block]? with
  | none => simp [hb] at h
  | some o =>
    cases o with
    | cells cs T fr => exact ⟨cs, T, fr, rfl⟩
    | _ => simp [hb] at h
theorem NW.sameC {n0 : Nat} {w W : World} {v : Value} {xs : List Nat} (h : NW n0 w v xs) (hk : ∀ (k : Nat) cs T fr, w.heap[k]? = some (Obj.cells cs T fr) → n0 ≤ k → W.heap[k]? = w.heap[k]?) : NW n0 W v xs := by
  obtain ⟨hr, A, c, e, h⟩ := h
  refine ⟨hr, A, c, e, ⟨⟨h.le, h.mx, h.nl, fun hx => ?_⟩, fun hx => ?_⟩⟩
  all_goals
    obtain ⟨b, off, e1, hc⟩ := h.rd hx
    obtain ⟨b', off', e2, hn, hf⟩ := h.own hx
    rw [e1] at e2; cases e2
  · refine ⟨b, off, e1, fun j x hj => ?_⟩
    obtain ⟨cs, T, fr, hb⟩ := cells_of_cell (hc j x hj)
    rw [← hc j x hj]
    exact World.cell?_of_block (w := w) (hk _ cs T fr hb hn)
  · refine ⟨b, off, e1, hn, fun j x hj => ?_⟩
    obtain ⟨cs, T, fr, hb⟩ := cells_of_cell (hc j x hj)
    rw [← hf j x hj]
    unfold World.frozen?
    rw [hk _ cs T fr hb hn]
/-- A row of the call's own: its words lie elsewhere -/
def OwnQ (base : Nat) (w : World) (v : Value) (l : List Qr) : Prop :=
  ∃ xs, w.ownsRow base 43 4 v l.length xs ∧ ∀ (j : Nat) q, l[j]? = some q → ∃ v1 v2, xs[j * 4]? = some (.bool q.n.neg) ∧ xs[j * 4 + 1]? = some v1 ∧ xs[j * 4 + 2]? = some (.bool q.d.neg) ∧ xs[j * 4 + 3]? = some v2 ∧
    ∀ w' : World, (∀ (k : Nat) cs T fr, base ≤ k → w.heap[k]? = some (Obj.cells cs T fr) → v.ownBlock ≠ some k → w'.heap[k]? = w.heap[k]?) → NW base w' v1 q.n.ws ∧ NW base w' v2 q.d.ws
theorem OwnQ.nil (base : Nat) (w : World) : OwnQ base w (.slice none 0 0) [] := ⟨[], World.ownsRow_nil w _ _ _, fun j q hj => by cases hj⟩
theorem OwnQ.below {base : Nat} {w w' : World} {v : Value} {l : List Qr} (h : OwnQ base w v l) (hb : Below w.heap.size w w') : OwnQ base w' v l := by
  obtain ⟨xs, ho, hx⟩ := h
  refine ⟨xs, ho.kept (row := none) ⟨hb.os, hb.tape, hb.output, hb.size, fun k hk _ => hb.block k hk⟩ (by cases v.ownBlock <;> simp), fun j q hj => ?_⟩
  obtain ⟨v1, v2, c0, c1, c2, c3, hw⟩ := hx j q hj
  exact ⟨v1, v2, c0, c1, c2, c3, fun W hW => hw W fun k cs T fr hbk hk hne => by
    have e := hb.block k (Array.getElem?_eq_some_iff.1 hk).1
    exact (hW k cs T fr hbk (e.trans hk) hne).trans e⟩
theorem OwnQ.lt {base : Nat} {w : World} {v : Value} {l : List Qr} (h : OwnQ base w v l) : ∀ k, v.ownBlock = some k → base ≤ k ∧ k < w.heap.size := by obtain ⟨xs, ho, _⟩ := h; exact ho.lt
theorem OwnQ.isR {base : Nat} {w : World} {v : Value} {l : List Qr} (h : OwnQ base w v l) : IsR w v l := by
  obtain ⟨xs, ho, hx⟩ := h
  have ho' := ho
  rcases ho.2 with ⟨rfl, h0⟩ | ⟨g, cap, cur, rfl, hg, hh, h1, h2, h3, h4⟩
  · have : l = [] := List.length_eq_zero_iff.1 h0
    subst this
    exact IsR.nil w
  · refine ⟨_, cap, rfl, h1, h2, (fun e => by cases e), fun hl => ⟨g, 0, rfl, fun j q hj => ?_⟩⟩
    obtain ⟨v1, v2, c0, c1, c2, c3, hw⟩ := hx j q hj
    have hjl : j < l.length := (List.getElem?_eq_some_iff.1 hj).1
    obtain ⟨q1, q2⟩ := hw w (fun _ _ _ _ _ _ _ => rfl)
    have hc := fun i hi => ho'.cellAt i hi
    exact ⟨v1, v2, by rw [Nat.zero_add, hc _ (by omega), c0], by rw [Nat.zero_add, hc _ (by omega), c1], by rw [Nat.zero_add, hc _ (by omega), c2], by rw [Nat.zero_add, hc _ (by omega), c3], q1.is, q2.is⟩
theorem OwnQ.form {base : Nat} {w : World} {v : Value} {l : List Qr} (h : OwnQ base w v l) : ∃ A c, v = .slice A l.length c ∧ (∀ a, A = some a → ∃ g, a = ⟨g, 0, none⟩) := by
  obtain ⟨xs, ho, hx⟩ := h
  rcases ho.2 with ⟨rfl, h0⟩ | ⟨g, cap, cur, rfl, _⟩
  · exact ⟨none, 0, by rw [h0], fun a e => by cases e⟩
  · exact ⟨_, cap, rfl, fun a e => by cases e; exact ⟨g, rfl⟩⟩
/-- words outside the row's block -/
def Apart (base : Nat) (w : World) (v : Value) (v1 v2 : Value) (q : Qr) : Prop := ∀ w' : World, (∀ (k : Nat) cs T fr, base ≤ k → w.heap[k]? = some (Obj.cells cs T fr) → v.ownBlock ≠ some k → w'.heap[k]? = w.heap[k]?) → NW base w' v1 q.n.ws ∧ NW base w' v2 q.d.ws
theorem Apart.new {n0 base : Nat} {w : World} {v v1 v2 : Value} {q : Qr} {l : List Qr} (h1 : NW n0 w v1 q.n.ws) (h2 : NW n0 w v2 q.d.ws) (hv : ∀ k, v.ownBlock = some k → k < n0) (hnb : base ≤ n0) : Apart base w v v1 v2 q := fun W hW =>
  ⟨(h1.sameC fun k cs T fr hk hn => hW k cs T fr (Nat.le_trans hnb hn) hk (fun e => by have := hv k e; omega)).mono hnb, (h2.sameC fun k cs T fr hk hn => hW k cs T fr (Nat.le_trans hnb hn) hk (fun e => by have := hv k e; omega)).mono hnb⟩
theorem Apart.below {base : Nat} {w w' : World} {v v1 v2 : Value} {q : Qr} (h : Apart base w v v1 v2 q) (hb : Below w.heap.size w w') : Apart base w' v v1 v2 q := fun W hW =>
  h W fun k cs T fr hbk hk hne => by
    have e := hb.block k (Array.getElem?_eq_some_iff.1 hk).1
    exact (hW k cs T fr hbk (e.trans hk) hne).trans e
theorem OwnQ.app {base : Nat} {w w' : World} {v v1 v2 : Value} {l : List Qr} {q : Qr} {xs : List Value} {g cap : Nat} (hlen : xs.length = l.length * 4)
    (hx : ∀ (j : Nat) q, l[j]? = some q → ∃ v1 v2, xs[j * 4]? = some (.bool q.n.neg) ∧ xs[j * 4 + 1]? = some v1 ∧ xs[j * 4 + 2]? = some (.bool q.d.neg) ∧ xs[j * 4 + 3]? = some v2 ∧ Apart base w v v1 v2 q)
    (hq : Apart base w v v1 v2 q) (ho : w'.ownsRow base 43 4 (.slice (some ⟨g, 0, none⟩) (l.length + 1) cap) (l.length + 1) (xs ++ [.bool q.n.neg, v1, .bool q.d.neg, v2])) (hg : w.grownBy w' v.ownBlock) (hat : v.ownBlock = some g ∨ g = w.heap.size) :
    OwnQ base w' (.slice (some ⟨g, 0, none⟩) (l.length + 1) cap) (l ++ [q]) := by
  have hap : ∀ {v1 v2 q}, Apart base w v v1 v2 q → Apart base w' (.slice (some ⟨g, 0, none⟩) (l.length + 1) cap) v1 v2 q := fun h W hW => h W fun k cs T fr hbk hkc hne => by
    have hk : k < w.heap.size := (Array.getElem?_eq_some_iff.1 hkc).1
    have e0 := hg.block k hk (fun e => hne e.symm)
    rw [hW k cs T fr hbk (e0.trans hkc) (by
      simp only [Value.ownBlock]
      intro e
      have e : g = k := Option.some.inj e
      subst e
      rcases hat with h' | h'
      · exact hne h'
      · omega), hg.block k hk (fun e => hne e.symm)]
  refine ⟨_, by simpa using ho, fun j q' hj => ?_⟩
  by_cases hjl : j < l.length
  · rw [List.getElem?_append_left hjl] at hj
    obtain ⟨u1, u2, c0, c1, c2, c3, hw⟩ := hx j q' hj
    exact ⟨u1, u2, by rw [List.getElem?_append_left (by omega)]; exact c0, by rw [List.getElem?_append_left (by omega)]; exact c1, by rw [List.getElem?_append_left (by omega)]; exact c2, by rw [List.getElem?_append_left (by omega)]; exact c3, hap hw⟩
  · have hjl2 : j = l.length := by
      have := (List.getElem?_eq_some_iff.1 hj).1
      simp at this
      omega
    subst hjl2
    rw [List.getElem?_append_right (Nat.le_refl _), Nat.sub_self] at hj
    simp only [List.getElem?_cons_zero, Option.some.injEq] at hj
    subst hj
    refine ⟨v1, v2, ?_, ?_, ?_, ?_, hap hq⟩ <;> rw [List.getElem?_append_right (by omega), hlen] <;> simp
theorem OwnQ.put_facts {base : Nat} {w : World} {g n cap i : Nat} {l : List Qr} (h : OwnQ base w (.slice (some ⟨g, 0, none⟩) n cap) l) (hn : n = l.length) (hi : i < n) :
    (∃ x, w.cell? ⟨g, i * 4, none⟩ = some x) ∧ (∃ x, w.cell? ⟨g, i * 4 + 1, none⟩ = some x) ∧ (∃ x, w.cell? ⟨g, i * 4 + 2, none⟩ = some x) ∧ (∃ x, w.cell? ⟨g, i * 4 + 3, none⟩ = some x) ∧
      w.frozen? ⟨g, i * 4, none⟩ = false ∧ w.frozen? ⟨g, i * 4 + 1, none⟩ = false ∧ w.frozen? ⟨g, i * 4 + 2, none⟩ = false ∧ w.frozen? ⟨g, i * 4 + 3, none⟩ = false := by
  subst hn
  obtain ⟨xs, ho, hx⟩ := h
  have hl : xs.length = l.length * 4 := ho.1
  have hc : ∀ j, j < l.length * 4 → ∃ x, w.cell? ⟨g, j, none⟩ = some x := fun j hj => ⟨_, (ho.cellAt j hj).trans (List.getElem?_eq_getElem (by omega))⟩
  exact ⟨hc _ (by omega), hc _ (by omega), hc _ (by omega), hc _ (by omega), ho.frozenAt _, ho.frozenAt _, ho.frozenAt _, ho.frozenAt _⟩
/-- growth that turns a block of another kind than cells -/
theorem OwnQ.other {base : Nat} {w w' : World} {v : Value} {l : List Qr} {row : Option Nat} (h : OwnQ base w v l) (hg : w.grownBy w' row) (hr : ∀ r, row = some r → ∃ o : Obj, w.heap[r]? = some o ∧ o.isCells = false) : OwnQ base w' v l := by
  obtain ⟨xs, ho, hx⟩ := h
  have hne : ∀ k cs T fr, w.heap[k]? = some (Obj.cells cs T fr) → some k ≠ row := fun k cs T fr hk e => by
    obtain ⟨o, ho1, ho2⟩ := hr k e.symm
    rw [hk] at ho1
    cases ho1
    simp [Obj.isCells] at ho2
  refine ⟨xs, ho.kept hg ?_, fun j q hj => ?_⟩
  · rcases ho.2 with ⟨rfl, _⟩ | ⟨g, cap, cur, rfl, _, hgg, _⟩
    · exact .inl rfl
    · exact .inr (hne g _ _ _ hgg)
  · obtain ⟨v1, v2, c0, c1, c2, c3, hw⟩ := hx j q hj
    refine ⟨v1, v2, c0, c1, c2, c3, fun W hW => hw W fun k cs T fr hbk hk ho => ?_⟩
    have e := hg.block k (Array.getElem?_eq_some_iff.1 hk).1 (hne k cs T fr hk)
    exact (hW k cs T fr hbk (e.trans hk) ho).trans e
theorem OwnQ.mono {base b' : Nat} {w : World} {v : Value} {l : List Qr} (h : OwnQ base w v l) (hb : b' ≤ base) : OwnQ b' w v l := by
  obtain ⟨xs, ho, hx⟩ := h
  refine ⟨xs, ⟨ho.1, ?_⟩, fun j q hj => by obtain ⟨v1, v2, c0, c1, c2, c3, hw⟩ := hx j q hj; exact ⟨v1, v2, c0, c1, c2, c3, fun W hW => by have h := hw W (fun k cs T fr hbk hk ho => hW k cs T fr (Nat.le_trans hb hbk) hk ho); exact ⟨h.1.mono hb, h.2.mono hb⟩⟩⟩
  rcases ho.2 with h0 | ⟨g, cap, cur, e, hg, r⟩
  · exact .inl h0
  · exact .inr ⟨g, cap, cur, e, Nat.le_trans hb hg, r⟩
/-- a store into another block, laid ahead of the row's base -/
theorem OwnQ.setFar {base : Nat} {w : World} {v : Value} {l : List Qr} (h : OwnQ base w v l) {p : Addr} (hp : p.block < base) (u : Value) : OwnQ base (w.setCell p u) v l := by
  obtain ⟨xs, ho, hx⟩ := h
  have hne : ∀ k, base ≤ k → (w.setCell p u).heap[k]? = w.heap[k]? := fun k hk => Below.heap_setCell _ _ _ _ (by omega)
  refine ⟨xs, ⟨ho.1, ?_⟩, fun j q hj => ?_⟩
  · rcases ho.2 with h0 | ⟨g, cap, cur, e, hg, hh, r⟩
    · exact .inl h0
    · exact .inr ⟨g, cap, cur, e, hg, (hne g hg).trans hh, r⟩
  · obtain ⟨v1, v2, c0, c1, c2, c3, hw⟩ := hx j q hj
    exact ⟨v1, v2, c0, c1, c2, c3, fun W hW => hw W fun k cs T fr hbk hk ho => (hW k cs T fr hbk ((hne k hbk).trans hk) ho).trans (hne k hbk)⟩
theorem OwnQ.ne_block {base D : Nat} {w : World} {v : Value} {l : List Qr} {cs : Array Value} {T : TypeId} {fr : Nat × Nat} (h : OwnQ base w v l) (hD : w.heap[D]? = some (.cells cs T fr)) (hT : T ≠ 43) : v.ownBlock ≠ some D := by
  obtain ⟨xs, ho, hx⟩ := h
  rcases ho.2 with ⟨rfl, _⟩ | ⟨g, cap, cur, rfl, hg, hh, _⟩
  · simp [Value.ownBlock]
  · intro e
    obtain rfl : g = D := by simpa [Value.ownBlock] using e
    rw [hh] at hD; cases hD; exact hT rfl
theorem OwnQ.ne_other {base D : Nat} {w : World} {v : Value} {l : List Qr} {o : Obj} (h : OwnQ base w v l) (hD : w.heap[D]? = some o) (ho : o.isCells = false) : v.ownBlock ≠ some D := by
  obtain ⟨xs, hw, hx⟩ := h
  rcases hw.2 with ⟨rfl, _⟩ | ⟨g, cap, cur, rfl, hg, hh, _⟩
  · simp [Value.ownBlock]
  · intro e
    obtain rfl : g = D := by simpa [Value.ownBlock] using e
    rw [hh] at hD; cases hD; cases ho
theorem info_Q : (Try.prog.info? 43).map (fun i => (i.zero, i.size, i.bytes)) = some (some (.agg #[.bool false, .slice none 0 0, .bool false, .slice none 0 0]), 4, 64) := by kernel_rfl
theorem info_Q_parts : ∃ i, Try.prog.info? 43 = some i ∧ i.zero = some (.agg #[.bool false, .slice none 0 0, .bool false, .slice none 0 0]) ∧ i.size = 4 ∧ i.bytes = 64 := by
  cases h : Try.prog.info? 43 with
  | none => have := info_Q; rw [h] at this; cases this
  | some i =>
    have := info_Q
    rw [h] at this
    simp only [Option.map_some, Option.some.injEq, Prod.mk.injEq] at this
    exact ⟨i, rfl, this.1, this.2.1, this.2.2⟩
theorem und_Qs : Try.prog.underlying 23 = some (.slice 43) := Try.underlying23
/-- append(v, q) onto a row of the call's own -/
theorem append_q {w : World} {ops : Array Oper} {rest : List Oper} {o : Oper} {a : Act} {Q : Exit → Act → World → Prop} (hgd : o.guard = none) (s x : Operand)
    (ho : o.op = .call { callee := .builtin .append, args := #[s, x], argTypes := #[23, 23] }) (base : Nat) (v : Value) (l : List Qr) (hs : a.eval s = v) (hown : OwnQ base w v l)
    (ad : Addr) (m c : Nat) (hx : a.eval x = .slice (some ad) m c) (hm : m = 1) (q : Qr) (v1 v2 : Value) (n1 c1 : Nat) (A1 : Option Addr) (n2 c2 : Nat) (A2 : Option Addr) (e1 : v1 = .slice A1 n1 c1) (e2 : v2 = .slice A2 n2 c2)
    (y0 : w.cell? ad = some (.bool q.n.neg)) (y1 : w.cell? (ad.add 1) = some v1) (y2 : w.cell? (ad.add 2) = some (.bool q.d.neg)) (y3 : w.cell? (ad.add 3) = some v2) (hq : Apart base w v v1 v2 q)
    (hlen : (l.length + 1) * 64 ≤ 140737488355328) (hbase : base ≤ w.heap.size)
    (h : ∀ g cap w', OwnQ base w' (.slice (some ⟨g, 0, none⟩) (l.length + 1) cap) (l ++ [q]) → w.grownBy w' v.ownBlock → (v.ownBlock = some g ∨ g = w.heap.size) → g < w'.heap.size → wpList Try.prog ops Q rest (a.put o.dst (.slice (some ⟨g, 0, none⟩) (l.length + 1) cap)) w') :
    wpList Try.prog ops Q (o :: rest) a w := by
  subst hm
  obtain ⟨xs, hxo, hxx⟩ := hown
  obtain ⟨i, hi, hz, hsz, hby⟩ := info_Q_parts
  refine wpList_append_lies w hgd s x 23 ho base 43 i _ 4 64 und_Qs hi hz hsz hby rfl (by decide) v l.length xs hs hxo ad 1 c [.bool q.n.neg, v1, .bool q.d.neg, v2] hx rfl ?_ ?_ (by decide) ?_ hlen hbase _ rfl ?_
  · intro j u hj
    match j, hj with
    | 0, hj => simp at hj; subst hj; rw [← y0]; congr 1
    | 1, hj => simp at hj; subst hj; exact y1
    | 2, hj => simp at hj; subst hj; exact y2
    | 3, hj => simp at hj; subst hj; exact y3
    | (n + 4), hj => simp at hj
  · subst e1; subst e2
    intro u hu
    simp at hu
    rcases hu with rfl | rfl | rfl | rfl <;> rfl
  · unfold maxLen; omega
  · intro g cap w' h1 h2 h3 h4
    exact h g cap w' (OwnQ.app hxo.1 hxx hq h1 h2 h3) h2 h3 h4
theorem OwnQ.made (w : World) (n : Nat) (hn : n ≤ maxLen) (cs : Array Value) (hcs : cs = madeCells #[.bool false, .slice none 0 0, .bool false, .slice none 0 0] (n * 4)) :
    OwnQ w.heap.size (w.alloc (.cells cs 43)) (.slice (some ⟨w.heap.size, 0, none⟩) n n) (List.replicate n zeroQ) := by
  have hsz : cs.size = n * 4 := by subst hcs; simp [madeCells]
  have hat : ∀ i, i < n * 4 → cs.toList[i]? = #[Value.bool false, .slice none 0 0, .bool false, .slice none 0 0][i % 4]? := fun i hi => by
    subst hcs
    have h4 : i % 4 < 4 := Nat.mod_lt _ (by decide)
    simp only [madeCells, Array.toList_map, Array.toList_range, List.getElem?_map, List.getElem?_range hi, Option.map_some]
    match i % 4, h4 with
    | 0, _ => rfl
    | 1, _ => rfl
    | 2, _ => rfl
    | 3, _ => rfl
  refine ⟨cs.toList, by rw [List.length_replicate]; exact World.ownsRow_lit w cs n (Nat.le_refl _) hn hsz, fun j q hj => ?_⟩
  rw [List.getElem?_replicate] at hj
  split at hj
  · rename_i hjn
    cases hj
    have m0 : j * 4 % 4 = 0 := by omega
    have m1 : (j * 4 + 1) % 4 = 1 := by omega
    have m2 : (j * 4 + 2) % 4 = 2 := by omega
    have m3 : (j * 4 + 3) % 4 = 3 := by omega
    exact ⟨.slice none 0 0, .slice none 0 0, by rw [hat _ (by omega), m0]; rfl, by rw [hat _ (by omega), m1]; rfl, by rw [hat _ (by omega), m2]; rfl, by rw [hat _ (by omega), m3]; rfl,
      fun W _ => ⟨⟨Rng.nil, none, 0, rfl, NRow.nil _ _ _⟩, ⟨Rng.nil, none, 0, rfl, NRow.nil _ _ _⟩⟩⟩
  · cases hj
theorem OwnQ.set {base : Nat} {w : World} {g n cap i : Nat} {v1 v2 : Value} {l : List Qr} {q : Qr} (h : OwnQ base w (.slice (some ⟨g, 0, none⟩) n cap) l) (hn : n = l.length) (hi : i < n) (hq : Apart base w (.slice (some ⟨g, 0, none⟩) n cap) v1 v2 q) :
    OwnQ base ((((w.setCell ⟨g, i * 4, none⟩ (.bool q.n.neg)).setCell ⟨g, i * 4 + 1, none⟩ v1).setCell ⟨g, i * 4 + 2, none⟩ (.bool q.d.neg)).setCell ⟨g, i * 4 + 3, none⟩ v2) (.slice (some ⟨g, 0, none⟩) n cap) (l.set i q) := by
  subst hn
  obtain ⟨xs, ho, hx⟩ := h
  have hlx : xs.length = l.length * 4 := ho.1
  obtain ⟨o1, b1⟩ := ho.stored (i * 4) (.bool q.n.neg)
  obtain ⟨o2, b2⟩ := o1.stored (i * 4 + 1) v1
  obtain ⟨o3, b3⟩ := o2.stored (i * 4 + 2) (.bool q.d.neg)
  obtain ⟨o4, b4⟩ := o3.stored (i * 4 + 3) v2
  have hap : ∀ {u1 u2 r}, Apart base w (.slice (some ⟨g, 0, none⟩) l.length cap) u1 u2 r → Apart base ((((w.setCell ⟨g, i * 4, none⟩ (.bool q.n.neg)).setCell ⟨g, i * 4 + 1, none⟩ v1).setCell ⟨g, i * 4 + 2, none⟩ (.bool q.d.neg)).setCell ⟨g, i * 4 + 3, none⟩ v2) (.slice (some ⟨g, 0, none⟩) l.length cap) u1 u2 r := fun h W hW => h W fun k cs T fr hbk hkc hne => by
    have hk : k < w.heap.size := (Array.getElem?_eq_some_iff.1 hkc).1
    have hk' : some k ≠ some g := fun e => hne (by simpa [Value.ownBlock] using e.symm)
    have e0 := (b4.block k (by simpa [World.setCell] using hk) hk').trans ((b3.block k (by simpa [World.setCell] using hk) hk').trans ((b2.block k (by simpa [World.setCell] using hk) hk').trans (b1.block k hk hk')))
    rw [hW k cs T fr hbk (e0.trans hkc) hne, e0]
  refine ⟨_, by rw [List.length_set]; exact o4, fun j r hj => ?_⟩
  by_cases e : i = j
  · subst e
    rw [List.getElem?_set_self hi] at hj
    · cases hj
      exact ⟨v1, v2, by simp [List.getElem?_set, hlx]; omega, by simp [List.getElem?_set, hlx]; omega, by simp [List.getElem?_set, hlx]; omega, by simp [List.getElem?_set, hlx]; omega, hap hq⟩
  · rw [List.getElem?_set_ne e] at hj
    obtain ⟨u1, u2, c0, c1, c2, c3, hw⟩ := hx j r hj
    have n0 : ∀ a b : Nat, a < 4 → b < 4 → i * 4 + a ≠ j * 4 + b := fun a b ha hb => by omega
    refine ⟨u1, u2, ?_, ?_, ?_, ?_, hap hw⟩
    · rw [List.getElem?_set_ne (show i * 4 + 3 ≠ j * 4 by omega), List.getElem?_set_ne (show i * 4 + 2 ≠ j * 4 by omega), List.getElem?_set_ne (show i * 4 + 1 ≠ j * 4 by omega), List.getElem?_set_ne (show i * 4 ≠ j * 4 by omega)]; exact c0
    · rw [List.getElem?_set_ne (show i * 4 + 3 ≠ j * 4 + 1 by omega), List.getElem?_set_ne (show i * 4 + 2 ≠ j * 4 + 1 by omega), List.getElem?_set_ne (show i * 4 + 1 ≠ j * 4 + 1 by omega), List.getElem?_set_ne (show i * 4 ≠ j * 4 + 1 by omega)]; exact c1
    · rw [List.getElem?_set_ne (show i * 4 + 3 ≠ j * 4 + 2 by omega), List.getElem?_set_ne (show i * 4 + 2 ≠ j * 4 + 2 by omega), List.getElem?_set_ne (show i * 4 + 1 ≠ j * 4 + 2 by omega), List.getElem?_set_ne (show i * 4 ≠ j * 4 + 2 by omega)]; exact c2
    · rw [List.getElem?_set_ne (show i * 4 + 3 ≠ j * 4 + 3 by omega), List.getElem?_set_ne (show i * 4 + 2 ≠ j * 4 + 3 by omega), List.getElem?_set_ne (show i * 4 + 1 ≠ j * 4 + 3 by omega), List.getElem?_set_ne (show i * 4 ≠ j * 4 + 3 by omega)]; exact c3
/-- append(v, q), q's cells just laid by buildSlice -/
theorem append_q1 {w : World} {ops : Array Oper} {rest : List Oper} {o : Oper} {a : Act} {Q : Exit → Act → World → Prop} (q : Qr) (n1 c1 : Nat) (A1 : Option Addr) (n2 c2 : Nat) (A2 : Option Addr) (T : TypeId) (hgd : o.guard = none) (s x : Operand)
    (ho : o.op = .call { callee := .builtin .append, args := #[s, x], argTypes := #[23, 23] }) (base n0 : Nat) (v : Value) (l : List Qr) (hs : a.eval s = v) (hown : OwnQ base w v l)
    (hx : a.eval x = .slice (some ⟨w.heap.size, 0, none⟩) 1 1)
    (hN : NQ n0 w (.agg #[.bool q.n.neg, .slice A1 n1 c1, .bool q.d.neg, .slice A2 n2 c2]) q) (hv : ∀ k, v.ownBlock = some k → k < n0) (hlen : (l.length + 1) * 64 ≤ 140737488355328) (hbase : base ≤ w.heap.size) (hn : base ≤ n0)
    (h : ∀ A cap w', OwnQ base w' (.slice A (l.length + 1) cap) (l ++ [q]) → (∀ w0 : World, w0.heap.size ≤ base → Below w0.heap.size w0 w → Below w0.heap.size w0 w') → wpList Try.prog ops Q rest (a.put o.dst (.slice A (l.length + 1) cap)) w') :
    wpList Try.prog ops Q (o :: rest) a (w.alloc (.cells #[.bool q.n.neg, .slice A1 n1 c1, .bool q.d.neg, .slice A2 n2 c2] T)) := by
  obtain ⟨u1, u2, e, h1, h2⟩ := hN
  cases e
  have hb := bl_alloc w (.cells #[.bool q.n.neg, .slice A1 n1 c1, .bool q.d.neg, .slice A2 n2 c2] T)
  have hown' := hown.below hb
  refine append_q hgd s x ho base v l hs hown' ⟨w.heap.size, 0, none⟩ 1 1 hx rfl q _ _ n1 c1 A1 n2 c2 A2 rfl rfl ?_ ?_ ?_ ?_ (Apart.below (Apart.new (l := l) (base := base) h1 h2 hv hn) hb) hlen (Nat.le_trans hbase hb.size) ?_
  · rw [cell_of_row _ _ _ _ _ _ (heap_alloc_new w _)]; rfl
  · rw [Addr.add_lit, cell_of_row _ _ _ _ _ _ (heap_alloc_new w _)]; rfl
  · rw [Addr.add_lit, cell_of_row _ _ _ _ _ _ (heap_alloc_new w _)]; rfl
  · rw [Addr.add_lit, cell_of_row _ _ _ _ _ _ (heap_alloc_new w _)]; rfl
  · intro g cap w' h3 h4 h5 h6
    exact h _ cap w' h3 fun w0 h0 hb0 => (hb0.trans (hb.mono hb0.size)).grown h4 (by have := hb0.size; have := hb.size; omega) (fun k e => by have := (hown.lt k e).1; omega)
end Go.Proofs.Ytnmmgegnioihmaa
namespace Go.Proofs.Ytnmmgegnioihmaa
open Go.RowKit

/-- a row of the call's own, of these rationals -/
def PostR (w : World) (xs : List Rat) (B : Nat) (e : Ending) (w' : World) : Prop := ∃ l v, Hid (l = xs.map canQ) ∧ (∀ q ∈ l, q.S ≤ B) ∧ e = .returned v ∧ OwnQ w.heap.size w' v l ∧ Below w.heap.size w w'
set_option maxHeartbeats 1000000 in
theorem vec_at_calls (v : Value) (l : List Qr) (k : Nat) (w : World) (h : IsR w v l) :
    Calls Try.prog 103 #[v, .int .i64 (k : Int)] w fun e w' => ∃ u, e = .returned u ∧ IsQ w u (l.getD k zeroQ) ∧ Below w.heap.size w w' := by
  obtain ⟨A, c, rfl, hr⟩ := h
  by_cases hlt : k < l.length
  · obtain ⟨b, off, A1, c1, A2, c2, rfl, y0, y1, y2, y3, hq⟩ := hr.at hlt
    generalize l.getD k zeroQ = q at *
    have Y0 := fun o => bl_cell (bl_alloc w o) y0
    have Y1 := fun o => bl_cell (bl_alloc w o) y1
    have Y2 := fun o => bl_cell (bl_alloc w o) y2
    have Y3 := fun o => bl_cell (bl_alloc w o) y3
    have hb : b < w.heap.size := World.block_lt_of_cell? w _ y0
    have hne : ¬ b = w.heap.size := by omega
    go_enter Try.func103, Try.ntmps103
    go_wp2
    exact bodyPost_ret (v := .agg #[.bool q.n.neg, .slice A1 q.n.ws.length c1, .bool q.d.neg, .slice A2 q.d.ws.length c2]) (by simp [results, Try.results103, go_sem]) rfl ⟨_, rfl, hq, bl_alloc _ _⟩
  · have he : l.getD k zeroQ = zeroQ := by rw [List.getD_eq_getElem?_getD, List.getElem?_eq_none (by omega)]; rfl
    rw [he]
    go_enter Try.func103, Try.ntmps103
    go_wp2
    exact bodyPost_ret (v := .agg #[.bool false, .slice none 0 0, .bool false, .slice none 0 0]) (by simp [results, Try.results103, go_sem]) rfl ⟨_, rfl, isZero w, bl_alloc _ _⟩
def enc64 (i : Int) : Value := .int .i64 i
theorem row64_at {w : World} {A : Option Addr} {c : Nat} {xs : List Int} (h : Row enc64 w A c xs) {k : Nat} (hk : k < xs.length) : ∃ b off, A = some ⟨b, off, none⟩ ∧ w.cell? ⟨b, off + k, none⟩ = some (.int .i64 (xs.getD k 0)) := by
  obtain ⟨b, off, e, hc⟩ := h.rd (by rintro rfl; simp at hk)
  exact ⟨b, off, e, hc k _ (by rw [List.getD_eq_getElem?_getD, List.getElem?_eq_getElem hk]; rfl)⟩
set_option maxHeartbeats 2000000 in
theorem vec_FromInts_calls (A : Option Addr) (c : Nat) (xs : List Int) (w : World) (h : Row enc64 w A c xs) (hr : ∀ x ∈ xs, -9223372036854775808 ≤ x ∧ x ≤ 9223372036854775807) (hlen : xs.length ≤ 1099511627776) :
    Calls Try.prog 43 #[.slice A xs.length c] w (PostR w (xs.map fun i : Int => (i : Rat)) 3) := by
  go_enter Try.func43, Try.ntmps43
  go_wp2
  go_loopw [2, 7] (fun o i wr => ∃ (k : Nat) (O : Option Addr) (oc : Nat) (l : List Qr), k ≤ xs.length ∧ i = .int .i64 k ∧ o = .slice O k oc ∧ OwnQ w.heap.size wr (.slice O k oc) l ∧ l.length = k ∧ Hid (l = (xs.take k).map fun i : Int => canQ (i : Rat)) ∧ (∀ q ∈ l, q.S ≤ 3) ∧ Below w.heap.size w wr) (fun _ i _ => xs.length - (intOf i).toNat)
  case atStart => exact ⟨0, none, 0, [], Nat.zero_le _, rfl, rfl, OwnQ.nil _ _, rfl, Lib.hid (by simp), (fun q hq => by cases hq), Below.refl _ _⟩
  case round =>
    obtain ⟨k, O, oc, l, hk, rfl, rfl, hO, hl, HL, hS, hb⟩ := hrel
    by_cases hlt : k < xs.length
    · obtain ⟨b, off, rfl, hc⟩ := row64_at (h.below hb) hlt
      have hx := hr (xs.getD k 0) (by rw [List.getD_eq_getElem?_getD, List.getElem?_eq_getElem hlt]; simp)
      obtain ⟨x, hxe⟩ : ∃ x, x = xs.getD k 0 := ⟨_, rfl⟩
      have HX := Lib.hid hxe
      rw [← hxe] at hc hx
      clear hxe
      have H1 := Lib.hid hx.1
      have H2 := Lib.hid hx.2
      clear hx
      go_wp2_with (first
        | (go_at_call 74; refine (frac_FromInt64_calls x _ H1.out H2.out).mono ?_; rintro e w2 ⟨q, u, HQ, hSq, rfl, hN, hb2⟩; obtain ⟨v5, v6, rfl, ⟨r5, A5, c5, rfl, h5⟩, ⟨r6, A6, c6, rfl, h6⟩⟩ := hN)
        | (at_builtin; refine append_q1 q _ _ _ _ _ _ _ rfl _ _ rfl w.heap.size wr.heap.size (.slice O k oc) l rfl (hO.below hb2) rfl ⟨_, _, rfl, ⟨r5, A5, c5, rfl, h5⟩, ⟨r6, A6, c6, rfl, h6⟩⟩ (fun k e => (hO.lt k e).2) (by omega) (Nat.le_trans hb.size hb2.size) hb.size ?_; intro O2 oc2 w3 hO2 hb3))
      go_roundw
      case rel =>
        refine ⟨k + 1, O2, oc2, l ++ [q], by omega, by simp, rfl, by rw [← hl]; exact hO2, by simp [hl], ?_, ?_, hb3 w (Nat.le_refl _) (hb.trans (hb2.mono hb.size))⟩
        · have := HL.out
          rw [List.take_add_one, List.getElem?_eq_getElem hlt, Option.toList_some, List.map_append, ← HL.out, HQ.out, HX.out, List.getD_eq_getElem?_getD, List.getElem?_eq_getElem hlt]
          exact Lib.hid rfl
        · intro r hr
          rw [List.mem_append] at hr
          rcases hr with hr | hr
          · exact hS r hr
          · simp at hr; subst hr; exact hSq
      case measure => simp [intOf]; omega
    · obtain rfl : k = xs.length := by omega
      go_wp2
      go_ret
      exact ⟨l, _, by rw [List.take_length] at HL; rw [List.map_map]; exact HL, hS, rfl, hO, hb⟩
theorem getD_S {l : List Qr} {M : Nat} (h : ∀ q ∈ l, q.S ≤ M) (h1 : 1 ≤ M) (k : Nat) : (l.getD k zeroQ).S ≤ M := by
  rw [List.getD_eq_getElem?_getD]
  by_cases hk : k < l.length
  · rw [List.getElem?_eq_getElem hk]; exact h _ (List.getElem_mem hk)
  · rw [List.getElem?_eq_none (by omega)]; exact h1
/-- the values of a vector, padded or cut -/
def padR (l : List Qr) (n : Nat) : List Rat := (List.range n).map fun k => (l.getD k zeroQ).val
theorem padR_succ (l : List Qr) (n : Nat) : padR l (n + 1) = padR l n ++ [(l.getD n zeroQ).val] := by simp [padR, List.range_succ]
set_option maxHeartbeats 2000000 in
theorem vec_Resize_calls (A : Option Addr) (c : Nat) (l : List Qr) (n : Int) (M : Nat) (w : World) (h : IsR w (.slice A l.length c) l) (hS : ∀ q ∈ l, q.S ≤ M) (h1 : 1 ≤ M) (hM : M ≤ 1099511627776) :
    Calls Try.prog 56 #[.slice A l.length c, .int .i64 n] w (PostR w (padR l (min (max n 0) 65536).toNat) (M + 1)) := by
  obtain ⟨m, hm⟩ : ∃ m : Nat, m = (min (max n 0) 65536).toNat := ⟨_, rfl⟩
  have hm' : min (max n 0) 65536 = (m : Int) := by omega
  have hmn : m ≤ 65536 := by omega
  rw [← hm]
  clear hm
  obtain ⟨p, hp⟩ : ∃ p : Int, p = max n 0 := ⟨_, rfl⟩
  have h7 : ∀ ts t W, (Builtin.max_ ts t #[.int .i64 n, .int .i64 0]).run Try.prog W = .ok (.int .i64 p) W := fun ts t W => by
    rw [run_max_int2, hp]; congr 2; split <;> omega
  have h8 : ∀ ts t W, (Builtin.min_ ts t #[.int .i64 p, .int .i64 65536]).run Try.prog W = .ok (.int .i64 (m : Int)) W := fun ts t W => by
    rw [run_min_int2, ← hm', hp]; congr 2; split <;> omega
  clear hm' hp
  have HS := Lib.hid hS
  clear hS
  go_enter Try.func56, Try.ntmps56
  go_wp2
  clear h7 h8
  go_loopw [4, 9] (fun o i wr => ∃ (k : Nat) (O : Option Addr) (oc : Nat) (r : List Qr), k ≤ m ∧ i = .int .i64 k ∧ o = .slice O k oc ∧ OwnQ w.heap.size wr (.slice O k oc) r ∧ r.length = k ∧ Hid (r = (padR l k).map canQ) ∧ (∀ q ∈ r, q.S ≤ M + 1) ∧ Below w.heap.size w wr) (fun _ i _ => m - (intOf i).toNat)
  case atStart => exact ⟨0, none, 0, [], Nat.zero_le _, rfl, rfl, OwnQ.nil _ _, rfl, Lib.hid rfl, (fun q hq => by cases hq), Below.refl _ _⟩
  case round =>
    obtain ⟨k, O, oc, r, hk, rfl, rfl, hO, hl, HL, hR, hb⟩ := hrel
    by_cases hlt : k < m
    · have hx := getD_S HS.out h1 k
      obtain ⟨x, hxe⟩ : ∃ x, x = l.getD k zeroQ := ⟨_, rfl⟩
      have HX := Lib.hid hxe
      rw [← hxe] at hx
      clear hxe
      go_wp2_with (first
        | (go_at_call 103; refine (vec_at_calls _ l k _ (h.below hb)).mono ?_; rintro e w1 ⟨u, rfl, hu, hb1⟩; rw [← HX.out] at hu; have hu' := hu; obtain ⟨A1, c1, A2, c2, rfl⟩ := hu'.slices)
        | (go_at_call 102; refine (frac_Canonical_calls _ x _ (hu.below hb1) (by omega)).mono ?_; rintro e w2 ⟨q, u, HQ, hSq, rfl, hN, hb2⟩; obtain ⟨v5, v6, rfl, ⟨r5, A5, c5, rfl, h5⟩, ⟨r6, A6, c6, rfl, h6⟩⟩ := hN)
        | (at_builtin; refine append_q1 q _ _ _ _ _ _ _ rfl _ _ rfl w.heap.size wr.heap.size (.slice O k oc) r rfl (hO.below (bl_trans hb1 hb2)) rfl ⟨_, _, rfl, ⟨r5, A5, c5, rfl, h5.mono hb1.size⟩, ⟨r6, A6, c6, rfl, h6.mono hb1.size⟩⟩ (fun k e => (hO.lt k e).2) (by omega) (Nat.le_trans hb.size (Nat.le_trans hb1.size hb2.size)) hb.size ?_; intro O2 oc2 w3 hO2 hb3))
      go_roundw
      case rel =>
        refine ⟨k + 1, O2, oc2, r ++ [q], by omega, by simp, rfl, by rw [← hl]; exact hO2, by simp [hl], ?_, ?_, hb3 w (Nat.le_refl _) (bl_trans hb (bl_trans hb1 hb2))⟩
        · rw [padR_succ, List.map_append, ← HL.out, HQ.out, HX.out]
          exact Lib.hid rfl
        · intro r hr
          rw [List.mem_append] at hr
          rcases hr with hr | hr
          · exact hR r hr
          · simp at hr; subst hr; omega
      case measure => simp [intOf]; omega
    · obtain rfl : k = m := by omega
      go_wp2
      go_ret
      exact ⟨r, _, HL, hR, rfl, hO, hb⟩
end Go.Proofs.Ytnmmgegnioihmaa
namespace Go.Proofs.Ytnmmgegnioihmaa
open Go.RowKit

/-- a slice of vectors -/
structure LRow (w : World) (A : Option Addr) (c : Nat) (ls : List (List Qr)) : Prop where
  le : ls.length ≤ c
  mx : c ≤ maxLen
  nl : A = none → c = 0
  rd : ls ≠ [] → ∃ b off, A = some ⟨b, off, none⟩ ∧ ∀ (j : Nat) l, ls[j]? = some l → ∃ B d, w.cell? ⟨b, off + j, none⟩ = some (.slice B l.length d) ∧ QRow w B d l
theorem LRow.below {w w' : World} {A : Option Addr} {c : Nat} {l : List (List Qr)} (h : LRow w A c l) (hb : Below w.heap.size w w') : LRow w' A c l := by
  refine ⟨h.le, h.mx, h.nl, fun hx => ?_⟩
  obtain ⟨b, off, e, hc⟩ := h.rd hx
  refine ⟨b, off, e, fun j q hj => ?_⟩
  obtain ⟨B, d, c0, h1⟩ := hc j q hj
  exact ⟨B, d, bl_cell hb c0, h1.below hb⟩
theorem LRow.at {w : World} {A : Option Addr} {c : Nat} {ls : List (List Qr)} (h : LRow w A c ls) {k : Nat} (hk : k < ls.length) : ∃ b off B d, A = some ⟨b, off, none⟩ ∧ w.cell? ⟨b, off + k, none⟩ = some (.slice B (ls.getD k []).length d) ∧ QRow w B d (ls.getD k []) := by
  obtain ⟨b, off, e, hc⟩ := h.rd (by rintro rfl; simp at hk)
  obtain ⟨B, d, h1, h2⟩ := hc k (ls.getD k []) (by rw [List.getD_eq_getElem?_getD, List.getElem?_eq_getElem hk]; rfl)
  exact ⟨b, off, B, d, e, h1, h2⟩
theorem min_eq (n : Nat) : ∃ m : Nat, m ≤ 100 ∧ ∀ ts t W, (Builtin.min_ ts t #[.int .i64 100, .int .i64 (n : Int)]).run Try.prog W = .ok (.int .i64 (m : Int)) W :=
  ⟨min 100 n, by omega, fun ts t W => by rw [run_min_int2]; congr 2; split <;> omega⟩
set_option maxHeartbeats 4000000 in
theorem Long_calls (A : Option Addr) (c : Nat) (ls : List (List Qr)) (w : World) (h : LRow w A c ls) (hlen : ls.length ≤ 1099511627776) :
    Calls Try.prog 32 #[.slice A ls.length c] w fun e w' => ∃ b, e = .returned (.bool b) ∧ (b = false → ∀ l ∈ ls, l.length ≤ 40) ∧ Below w.heap.size w w' := by
  go_enter Try.func32, Try.ntmps32
  go_wp2
  go_loopw [3, 4] (fun n i wr => ∃ k nn : Nat, k ≤ ls.length ∧ i = .int .i64 k ∧ n = .int .i64 nn ∧ nn ≤ 400 ∧ Hid (∀ j, j < k → (ls.getD j []).length ≤ 40) ∧ Below w.heap.size w wr) (fun _ i _ => ls.length - (intOf i).toNat)
  case atStart => exact ⟨0, 0, Nat.zero_le _, rfl, rfl, by omega, Lib.hid (fun j hj => by omega), Below.refl _ _⟩
  case round =>
    obtain ⟨k, nn, hk, rfl, rfl, hn, HK, hb⟩ := hrel
    by_cases hlt : k < ls.length
    · obtain ⟨b, off, B, d, rfl, hc, hr⟩ := (h.below hb).at hlt
      obtain ⟨l, hle⟩ : ∃ l, l = ls.getD k [] := ⟨_, rfl⟩
      have HLE := Lib.hid hle
      rw [← hle] at hc hr
      clear hle
      by_cases hbig : 40 < l.length
      · go_wp2
        go_ret
        exact ⟨true, rfl, (fun h => by cases h), hb⟩
      · have hdec : decide ((40 : Int) < (l.length : Int)) = false := by simp; omega
        have hl40 : Hid (l.length ≤ 40) := Lib.hid (by omega)
        go_wp2
        obtain ⟨wo, hwo⟩ : ∃ wo : World, wo = wr := ⟨_, rfl⟩
        go_loopw [3, 5] (fun n i wi => ∃ m n2 : Nat, m ≤ l.length ∧ i = .int .i64 m ∧ n = .int .i64 n2 ∧ n2 ≤ 400 + 201 * m ∧ Below w.heap.size w wi ∧ Below wo.heap.size wo wi) (fun _ i _ => l.length - (intOf i).toNat)
        case atStart => subst hwo; exact ⟨0, nn, Nat.zero_le _, rfl, rfl, by omega, hb, Below.refl _ _⟩
        case round =>
          obtain ⟨m, n2, hm, rfl, rfl, hn2, hbi, hbo⟩ := hrel
          subst hwo
          have hci := bl_cell hbo hc
          by_cases hlm : m < l.length
          · obtain ⟨b2, off2, A1, c1, A2, c2, rfl, y0, y1, y2, y3, hq⟩ := (hr.below hbo).at hlm
            obtain ⟨x, hxe⟩ : ∃ x, x = l.getD m zeroQ := ⟨_, rfl⟩
            rw [← hxe] at y0 y1 y2 y3 hq
            clear hxe
            obtain ⟨m1, hm1, e1⟩ := min_eq x.n.ws.length
            obtain ⟨m2, hm2, e2⟩ := min_eq x.d.ws.length
            clear hc y0 y2 hq
            go_wp2
            go_quiet (fail)
            go_wp2
            go_roundw
            case rel => exact ⟨m + 1, n2 + 1 + m1 + m2, by omega, by simp, by simp, by omega, hbi.trans (by have := bl_drewN wr nq; exact this.mono hbi.size), bl_trans hbo (bl_drewN wr nq)⟩
            case measure => simp [intOf]; omega
          · obtain rfl : m = l.length := by omega
            have hn2' : n2 ≤ 8440 := by have := hl40.out; omega
            by_cases hgt : 400 < n2
            · go_wp2
              go_ret
              exact ⟨true, rfl, (fun h => by cases h), hbi⟩
            · go_wp2
              go_roundw
              case rel =>
                refine ⟨k + 1, n2, by omega, by simp, rfl, by omega, Lib.hid fun j hj => ?_, hbi⟩
                by_cases h : j < k
                · exact HK.out j h
                · obtain rfl : j = k := by omega
                  rw [← HLE.out]; exact hl40.out
              case measure => simp [intOf]; omega
    · obtain rfl : k = ls.length := by omega
      go_wp2
      go_ret
      refine ⟨false, rfl, fun _ l hl => ?_, hb⟩
      obtain ⟨j, hj, rfl⟩ := List.getElem_of_mem hl
      have := HK.out j hj
      rw [List.getD_eq_getElem?_getD, List.getElem?_eq_getElem hj] at this
      exact this
end Go.Proofs.Ytnmmgegnioihmaa
