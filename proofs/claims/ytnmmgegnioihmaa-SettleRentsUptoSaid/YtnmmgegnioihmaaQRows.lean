/- Rows of rationals, four cells an element: what a slice of them holds, a row of the call's own, append onto it. -/
import Derived.Test.YtnmmgegnioihmaaFrac5
import Derived.Deep.AppendLies
set_option linter.unusedVariables false
set_option linter.unusedSimpArgs false
namespace Go.Proofs.Ytnmmgegnioihmaa
open Go.RowKit

/-- A slice's elements, each of four cells -/
structure QRow (w : World) (A : Option Addr) (c : Nat) (l : List Qr) : Prop where
  le : l.length ≤ c
  mx : c ≤ maxLen
  nl : A = none → c = 0
  rd : l ≠ [] → ∃ b off, A = some ⟨b, off, none⟩ ∧ ∀ (j : Nat) q, l[j]? = some q → ∃ v1 v2, w.cell? ⟨b, off + j * 4, none⟩ = some (.bool q.n.neg) ∧ w.cell? ⟨b, off + j * 4 + 1, none⟩ = some v1 ∧
    w.cell? ⟨b, off + j * 4 + 2, none⟩ = some (.bool q.d.neg) ∧ w.cell? ⟨b, off + j * 4 + 3, none⟩ = some v2 ∧ IsW w v1 q.n.ws ∧ IsW w v2 q.d.ws
def IsR (w : World) (v : Value) (l : List Qr) : Prop := ∃ A c, v = .slice A l.length c ∧ QRow w A c l
theorem QRow.nil (w : World) : QRow w none 0 [] := ⟨Nat.zero_le _, by unfold maxLen; omega, fun _ => rfl, fun h => (h rfl).elim⟩
theorem IsR.nil (w : World) : IsR w (.slice none 0 0) [] := ⟨_, _, rfl, QRow.nil w⟩
theorem QRow.below {w w' : World} {A : Option Addr} {c : Nat} {l : List Qr} (h : QRow w A c l) (hb : Below w.heap.size w w') : QRow w' A c l := by
  refine ⟨h.le, h.mx, h.nl, fun hx => ?_⟩
  obtain ⟨b, off, e, hc⟩ := h.rd hx
  refine ⟨b, off, e, fun j q hj => ?_⟩
  obtain ⟨v1, v2, c0, c1, c2, c3, h1, h2⟩ := hc j q hj
  exact ⟨v1, v2, bl_cell hb c0, bl_cell hb c1, bl_cell hb c2, bl_cell hb c3, h1.below hb, h2.below hb⟩
theorem IsR.below {w w' : World} {v : Value} {l : List Qr} (h : IsR w v l) (hb : Below w.heap.size w w') : IsR w' v l := by
  obtain ⟨A, c, e, h⟩ := h; exact ⟨A, c, e, h.below hb⟩
theorem IsR.slice {w : World} {v : Value} {l : List Qr} (h : IsR w v l) : ∃ A c, v = .slice A l.length c := by obtain ⟨A, c, e, h⟩ := h; exact ⟨A, c, e⟩
theorem IsR.row {w : World} {A : Option Addr} {n c : Nat} {l : List Qr} (h : IsR w (.slice A n c) l) : n = l.length ∧ QRow w A c l := by
  obtain ⟨A', c', e, h⟩ := h
  injection e with e1 e2 e3
  subst e1; subst e3
  exact ⟨e2, h⟩
theorem QRow.isR {w : World} {A : Option Addr} {c : Nat} {l : List Qr} (h : QRow w A c l) : IsR w (.slice A l.length c) l := ⟨A, c, rfl, h⟩
theorem QRow.none_nil {w : World} {c : Nat} {l : List Qr} (h : QRow w none c l) : l = [] ∧ c = 0 := by
  refine ⟨?_, h.nl rfl⟩
  cases l with
  | nil => rfl
  | cons x l => obtain ⟨b, off, e, _⟩ := h.rd (by simp); cases e
/-- an element -/
theorem QRow.at {w : World} {A : Option Addr} {c : Nat} {l : List Qr} (h : QRow w A c l) {k : Nat} (hk : k < l.length) : ∃ b off A1 c1 A2 c2, A = some ⟨b, off, none⟩ ∧
    w.cell? ⟨b, off + k * 4, none⟩ = some (.bool (l.getD k zeroQ).n.neg) ∧ w.cell? ⟨b, off + k * 4 + 1, none⟩ = some (.slice A1 (l.getD k zeroQ).n.ws.length c1) ∧
    w.cell? ⟨b, off + k * 4 + 2, none⟩ = some (.bool (l.getD k zeroQ).d.neg) ∧ w.cell? ⟨b, off + k * 4 + 3, none⟩ = some (.slice A2 (l.getD k zeroQ).d.ws.length c2) ∧
    IsQ w (.agg #[.bool (l.getD k zeroQ).n.neg, .slice A1 (l.getD k zeroQ).n.ws.length c1, .bool (l.getD k zeroQ).d.neg, .slice A2 (l.getD k zeroQ).d.ws.length c2]) (l.getD k zeroQ) := by
  obtain ⟨b, off, e, hc⟩ := h.rd (by rintro rfl; simp at hk)
  obtain ⟨v1, v2, c0, c1, c2, c3, h1, h2⟩ := hc k (l.getD k zeroQ) (by rw [List.getD_eq_getElem?_getD, List.getElem?_eq_getElem hk]; rfl)
  obtain ⟨r1, A1, d1, rfl, w1⟩ := h1
  obtain ⟨r2, A2, d2, rfl, w2⟩ := h2
  exact ⟨b, off, A1, d1, A2, d2, e, c0, c1, c2, c3, ⟨_, _, rfl, ⟨r1, A1, d1, rfl, w1⟩, ⟨r2, A2, d2, rfl, w2⟩⟩⟩
/-- A row of the call's own: its words lie elsewhere -/
def OwnQ (base : Nat) (w : World) (v : Value) (l : List Qr) : Prop :=
  ∃ xs, w.ownsRow base 43 4 v l.length xs ∧ ∀ (j : Nat) q, l[j]? = some q → ∃ v1 v2, xs[j * 4]? = some (.bool q.n.neg) ∧ xs[j * 4 + 1]? = some v1 ∧ xs[j * 4 + 2]? = some (.bool q.d.neg) ∧ xs[j * 4 + 3]? = some v2 ∧
    ∀ w' : World, (∀ k, k < w.heap.size → v.ownBlock ≠ some k → w'.heap[k]? = w.heap[k]?) → IsW w' v1 q.n.ws ∧ IsW w' v2 q.d.ws
theorem OwnQ.nil (base : Nat) (w : World) : OwnQ base w (.slice none 0 0) [] := ⟨[], World.ownsRow_nil w _ _ _, fun j q hj => by cases hj⟩
theorem OwnQ.below {base : Nat} {w w' : World} {v : Value} {l : List Qr} (h : OwnQ base w v l) (hb : Below w.heap.size w w') : OwnQ base w' v l := by
  obtain ⟨xs, ho, hx⟩ := h
  refine ⟨xs, ho.kept (row := none) ⟨hb.os, hb.tape, hb.output, hb.size, fun k hk _ => hb.block k hk⟩ (by cases v.ownBlock <;> simp), fun j q hj => ?_⟩
  obtain ⟨v1, v2, c0, c1, c2, c3, hw⟩ := hx j q hj
  exact ⟨v1, v2, c0, c1, c2, c3, fun W hW => hw W fun k hk hne => (hW k (Nat.lt_of_lt_of_le hk hb.size) hne).trans (hb.block k hk)⟩
theorem OwnQ.lt {base : Nat} {w : World} {v : Value} {l : List Qr} (h : OwnQ base w v l) : ∀ k, v.ownBlock = some k → base ≤ k ∧ k < w.heap.size := by obtain ⟨xs, ho, _⟩ := h; exact ho.lt
theorem OwnQ.isR {base : Nat} {w : World} {v : Value} {l : List Qr} (h : OwnQ base w v l) : IsR w v l := by
  obtain ⟨xs, ho, hx⟩ := h
  have ho' := ho
  rcases ho.2 with ⟨rfl, h0⟩ | ⟨g, cap, cur, rfl, hg, hh, h1, h2, h3, h4⟩
  · have : l = [] := List.length_eq_zero_iff.1 h0
    subst this
    exact IsR.nil w
  · refine ⟨_, cap, rfl, h1, h2, (fun e => by cases e), fun hl => ⟨g, 0, rfl, fun j q hj => ?_⟩⟩
    obtain ⟨v1, v2, c0, c1, c2, c3, hw⟩ := hx j q hj
    have hjl : j < l.length := (List.getElem?_eq_some_iff.1 hj).1
    obtain ⟨q1, q2⟩ := hw w (fun _ _ _ => rfl)
    have hc := fun i hi => ho'.cellAt i hi
    exact ⟨v1, v2, by rw [Nat.zero_add, hc _ (by omega), c0], by rw [Nat.zero_add, hc _ (by omega), c1], by rw [Nat.zero_add, hc _ (by omega), c2], by rw [Nat.zero_add, hc _ (by omega), c3], q1, q2⟩
theorem OwnQ.form {base : Nat} {w : World} {v : Value} {l : List Qr} (h : OwnQ base w v l) : ∃ A c, v = .slice A l.length c ∧ (∀ a, A = some a → ∃ g, a = ⟨g, 0, none⟩) := by
  obtain ⟨xs, ho, hx⟩ := h
  rcases ho.2 with ⟨rfl, h0⟩ | ⟨g, cap, cur, rfl, _⟩
  · exact ⟨none, 0, by rw [h0], fun a e => by cases e⟩
  · exact ⟨_, cap, rfl, fun a e => by cases e; exact ⟨g, rfl⟩⟩
/-- words outside the row's block -/
def Apart (w : World) (v : Value) (v1 v2 : Value) (q : Qr) : Prop := ∀ w' : World, (∀ k, k < w.heap.size → v.ownBlock ≠ some k → w'.heap[k]? = w.heap[k]?) → IsW w' v1 q.n.ws ∧ IsW w' v2 q.d.ws
theorem Apart.new {n0 base : Nat} {w : World} {v v1 v2 : Value} {q : Qr} {l : List Qr} (h1 : NW n0 w v1 q.n.ws) (h2 : NW n0 w v2 q.d.ws) (hv : ∀ k, v.ownBlock = some k → k < n0) : Apart w v v1 v2 q := fun W hW =>
  ⟨h1.sameF fun k hk hn => hW k hk (fun e => by have := hv k e; omega), h2.sameF fun k hk hn => hW k hk (fun e => by have := hv k e; omega)⟩
theorem Apart.below {w w' : World} {v v1 v2 : Value} {q : Qr} (h : Apart w v v1 v2 q) (hb : Below w.heap.size w w') : Apart w' v v1 v2 q := fun W hW =>
  h W fun k hk hne => (hW k (Nat.lt_of_lt_of_le hk hb.size) hne).trans (hb.block k hk)
theorem OwnQ.app {base : Nat} {w w' : World} {v v1 v2 : Value} {l : List Qr} {q : Qr} {xs : List Value} {g cap : Nat} (hlen : xs.length = l.length * 4)
    (hx : ∀ (j : Nat) q, l[j]? = some q → ∃ v1 v2, xs[j * 4]? = some (.bool q.n.neg) ∧ xs[j * 4 + 1]? = some v1 ∧ xs[j * 4 + 2]? = some (.bool q.d.neg) ∧ xs[j * 4 + 3]? = some v2 ∧ Apart w v v1 v2 q)
    (hq : Apart w v v1 v2 q) (ho : w'.ownsRow base 43 4 (.slice (some ⟨g, 0, none⟩) (l.length + 1) cap) (l.length + 1) (xs ++ [.bool q.n.neg, v1, .bool q.d.neg, v2])) (hg : w.grownBy w' v.ownBlock) (hat : v.ownBlock = some g ∨ g = w.heap.size) :
    OwnQ base w' (.slice (some ⟨g, 0, none⟩) (l.length + 1) cap) (l ++ [q]) := by
  have hap : ∀ {v1 v2 q}, Apart w v v1 v2 q → Apart w' (.slice (some ⟨g, 0, none⟩) (l.length + 1) cap) v1 v2 q := fun h W hW => h W fun k hk hne => by
    rw [hW k (Nat.lt_of_lt_of_le hk hg.size) (by
      simp only [Value.ownBlock]
      intro e
      have e : g = k := Option.some.inj e
      subst e
      rcases hat with h' | h'
      · exact hne h'
      · omega), hg.block k hk (fun e => hne e.symm)]
  refine ⟨_, by simpa using ho, fun j q' hj => ?_⟩
  by_cases hjl : j < l.length
  · rw [List.getElem?_append_left hjl] at hj
    obtain ⟨u1, u2, c0, c1, c2, c3, hw⟩ := hx j q' hj
    exact ⟨u1, u2, by rw [List.getElem?_append_left (by omega)]; exact c0, by rw [List.getElem?_append_left (by omega)]; exact c1, by rw [List.getElem?_append_left (by omega)]; exact c2, by rw [List.getElem?_append_left (by omega)]; exact c3, hap hw⟩
  · have hjl2 : j = l.length := by
      have := (List.getElem?_eq_some_iff.1 hj).1
      simp at this
      omega
    subst hjl2
    rw [List.getElem?_append_right (Nat.le_refl _), Nat.sub_self] at hj
    simp only [List.getElem?_cons_zero, Option.some.injEq] at hj
    subst hj
    refine ⟨v1, v2, ?_, ?_, ?_, ?_, hap hq⟩ <;> rw [List.getElem?_append_right (by omega), hlen] <;> simp
theorem OwnQ.put_facts {base : Nat} {w : World} {g n cap i : Nat} {l : List Qr} (h : OwnQ base w (.slice (some ⟨g, 0, none⟩) n cap) l) (hn : n = l.length) (hi : i < n) :
    (∃ x, w.cell? ⟨g, i * 4, none⟩ = some x) ∧ (∃ x, w.cell? ⟨g, i * 4 + 1, none⟩ = some x) ∧ (∃ x, w.cell? ⟨g, i * 4 + 2, none⟩ = some x) ∧ (∃ x, w.cell? ⟨g, i * 4 + 3, none⟩ = some x) ∧
      w.frozen? ⟨g, i * 4, none⟩ = false ∧ w.frozen? ⟨g, i * 4 + 1, none⟩ = false ∧ w.frozen? ⟨g, i * 4 + 2, none⟩ = false ∧ w.frozen? ⟨g, i * 4 + 3, none⟩ = false := by
  subst hn
  obtain ⟨xs, ho, hx⟩ := h
  have hl : xs.length = l.length * 4 := ho.1
  have hc : ∀ j, j < l.length * 4 → ∃ x, w.cell? ⟨g, j, none⟩ = some x := fun j hj => ⟨_, (ho.cellAt j hj).trans (List.getElem?_eq_getElem (by omega))⟩
  exact ⟨hc _ (by omega), hc _ (by omega), hc _ (by omega), hc _ (by omega), ho.frozenAt _, ho.frozenAt _, ho.frozenAt _, ho.frozenAt _⟩
theorem info_Q : (Try.prog.info? 43).map (fun i => (i.zero, i.size, i.bytes)) = some (some (.agg #[.bool false, .slice none 0 0, .bool false, .slice none 0 0]), 4, 64) := by kernel_rfl
theorem info_Q_parts : ∃ i, Try.prog.info? 43 = some i ∧ i.zero = some (.agg #[.bool false, .slice none 0 0, .bool false, .slice none 0 0]) ∧ i.size = 4 ∧ i.bytes = 64 := by
  cases h : Try.prog.info? 43 with
  | none => have := info_Q; rw [h] at this; cases this
  | some i =>
    have := info_Q
    rw [h] at this
    simp only [Option.map_some, Option.some.injEq, Prod.mk.injEq] at this
    exact ⟨i, rfl, this.1, this.2.1, this.2.2⟩
theorem und_Qs : Try.prog.underlying 23 = some (.slice 43) := Try.underlying23
/-- append(v, q) onto a row of the call's own -/
theorem append_q {w : World} {ops : Array Oper} {rest : List Oper} {o : Oper} {a : Act} {Q : Exit → Act → World → Prop} (hgd : o.guard = none) (s x : Operand)
    (ho : o.op = .call { callee := .builtin .append, args := #[s, x], argTypes := #[23, 23] }) (base : Nat) (v : Value) (l : List Qr) (hs : a.eval s = v) (hown : OwnQ base w v l)
    (ad : Addr) (m c : Nat) (hx : a.eval x = .slice (some ad) m c) (hm : m = 1) (q : Qr) (v1 v2 : Value) (n1 c1 : Nat) (A1 : Option Addr) (n2 c2 : Nat) (A2 : Option Addr) (e1 : v1 = .slice A1 n1 c1) (e2 : v2 = .slice A2 n2 c2)
    (y0 : w.cell? ad = some (.bool q.n.neg)) (y1 : w.cell? (ad.add 1) = some v1) (y2 : w.cell? (ad.add 2) = some (.bool q.d.neg)) (y3 : w.cell? (ad.add 3) = some v2) (hq : Apart w v v1 v2 q)
    (hlen : (l.length + 1) * 64 ≤ 140737488355328) (hbase : base ≤ w.heap.size)
    (h : ∀ g cap w', OwnQ base w' (.slice (some ⟨g, 0, none⟩) (l.length + 1) cap) (l ++ [q]) → w.grownBy w' v.ownBlock → (v.ownBlock = some g ∨ g = w.heap.size) → g < w'.heap.size → wpList Try.prog ops Q rest (a.put o.dst (.slice (some ⟨g, 0, none⟩) (l.length + 1) cap)) w') :
    wpList Try.prog ops Q (o :: rest) a w := by
  subst hm
  obtain ⟨xs, hxo, hxx⟩ := hown
  obtain ⟨i, hi, hz, hsz, hby⟩ := info_Q_parts
  refine wpList_append_lies w hgd s x 23 ho base 43 i _ 4 64 und_Qs hi hz hsz hby rfl (by decide) v l.length xs hs hxo ad 1 c [.bool q.n.neg, v1, .bool q.d.neg, v2] hx rfl ?_ ?_ (by decide) ?_ hlen hbase _ rfl ?_
  · intro j u hj
    match j, hj with
    | 0, hj => simp at hj; subst hj; rw [← y0]; congr 1
    | 1, hj => simp at hj; subst hj; exact y1
    | 2, hj => simp at hj; subst hj; exact y2
    | 3, hj => simp at hj; subst hj; exact y3
    | (n + 4), hj => simp at hj
  · subst e1; subst e2
    intro u hu
    simp at hu
    rcases hu with rfl | rfl | rfl | rfl <;> rfl
  · unfold maxLen; omega
  · intro g cap w' h1 h2 h3 h4
    exact h g cap w' (OwnQ.app hxo.1 hxx hq h1 h2 h3) h2 h3 h4
theorem OwnQ.made (w : World) (n : Nat) (hn : n ≤ maxLen) (cs : Array Value) (hcs : cs = madeCells #[.bool false, .slice none 0 0, .bool false, .slice none 0 0] (n * 4)) :
    OwnQ w.heap.size (w.alloc (.cells cs 43)) (.slice (some ⟨w.heap.size, 0, none⟩) n n) (List.replicate n zeroQ) := by
  have hsz : cs.size = n * 4 := by subst hcs; simp [madeCells]
  have hat : ∀ i, i < n * 4 → cs.toList[i]? = #[Value.bool false, .slice none 0 0, .bool false, .slice none 0 0][i % 4]? := fun i hi => by
    subst hcs
    have h4 : i % 4 < 4 := Nat.mod_lt _ (by decide)
    simp only [madeCells, Array.toList_map, Array.toList_range, List.getElem?_map, List.getElem?_range hi, Option.map_some]
    match i % 4, h4 with
    | 0, _ => rfl
    | 1, _ => rfl
    | 2, _ => rfl
    | 3, _ => rfl
  refine ⟨cs.toList, by rw [List.length_replicate]; exact World.ownsRow_lit w cs n (Nat.le_refl _) hn hsz, fun j q hj => ?_⟩
  rw [List.getElem?_replicate] at hj
  split at hj
  · rename_i hjn
    cases hj
    have m0 : j * 4 % 4 = 0 := by omega
    have m1 : (j * 4 + 1) % 4 = 1 := by omega
    have m2 : (j * 4 + 2) % 4 = 2 := by omega
    have m3 : (j * 4 + 3) % 4 = 3 := by omega
    exact ⟨.slice none 0 0, .slice none 0 0, by rw [hat _ (by omega), m0]; rfl, by rw [hat _ (by omega), m1]; rfl, by rw [hat _ (by omega), m2]; rfl, by rw [hat _ (by omega), m3]; rfl,
      fun W _ => ⟨⟨Rng.nil, none, 0, rfl, Row.nil _ _⟩, ⟨Rng.nil, none, 0, rfl, Row.nil _ _⟩⟩⟩
  · cases hj
theorem OwnQ.set {base : Nat} {w : World} {g n cap i : Nat} {v1 v2 : Value} {l : List Qr} {q : Qr} (h : OwnQ base w (.slice (some ⟨g, 0, none⟩) n cap) l) (hn : n = l.length) (hi : i < n) (hq : Apart w (.slice (some ⟨g, 0, none⟩) n cap) v1 v2 q) :
    OwnQ base ((((w.setCell ⟨g, i * 4, none⟩ (.bool q.n.neg)).setCell ⟨g, i * 4 + 1, none⟩ v1).setCell ⟨g, i * 4 + 2, none⟩ (.bool q.d.neg)).setCell ⟨g, i * 4 + 3, none⟩ v2) (.slice (some ⟨g, 0, none⟩) n cap) (l.set i q) := by
  subst hn
  obtain ⟨xs, ho, hx⟩ := h
  have hlx : xs.length = l.length * 4 := ho.1
  obtain ⟨o1, b1⟩ := ho.stored (i * 4) (.bool q.n.neg)
  obtain ⟨o2, b2⟩ := o1.stored (i * 4 + 1) v1
  obtain ⟨o3, b3⟩ := o2.stored (i * 4 + 2) (.bool q.d.neg)
  obtain ⟨o4, b4⟩ := o3.stored (i * 4 + 3) v2
  have hap : ∀ {u1 u2 r}, Apart w (.slice (some ⟨g, 0, none⟩) l.length cap) u1 u2 r → Apart ((((w.setCell ⟨g, i * 4, none⟩ (.bool q.n.neg)).setCell ⟨g, i * 4 + 1, none⟩ v1).setCell ⟨g, i * 4 + 2, none⟩ (.bool q.d.neg)).setCell ⟨g, i * 4 + 3, none⟩ v2) (.slice (some ⟨g, 0, none⟩) l.length cap) u1 u2 r := fun h W hW => h W fun k hk hne => by
    have hk' : some k ≠ some g := fun e => hne (by simpa [Value.ownBlock] using e.symm)
    rw [hW k (by simpa [World.setCell] using hk) hne, b4.block k (by simpa [World.setCell] using hk) hk', b3.block k (by simpa [World.setCell] using hk) hk', b2.block k (by simpa [World.setCell] using hk) hk', b1.block k hk hk']
  refine ⟨_, by rw [List.length_set]; exact o4, fun j r hj => ?_⟩
  by_cases e : i = j
  · subst e
    rw [List.getElem?_set_self hi] at hj
    · cases hj
      exact ⟨v1, v2, by simp [List.getElem?_set, hlx]; omega, by simp [List.getElem?_set, hlx]; omega, by simp [List.getElem?_set, hlx]; omega, by simp [List.getElem?_set, hlx]; omega, hap hq⟩
  · rw [List.getElem?_set_ne e] at hj
    obtain ⟨u1, u2, c0, c1, c2, c3, hw⟩ := hx j r hj
    have n0 : ∀ a b : Nat, a < 4 → b < 4 → i * 4 + a ≠ j * 4 + b := fun a b ha hb => by omega
    refine ⟨u1, u2, ?_, ?_, ?_, ?_, hap hw⟩
    · rw [List.getElem?_set_ne (show i * 4 + 3 ≠ j * 4 by omega), List.getElem?_set_ne (show i * 4 + 2 ≠ j * 4 by omega), List.getElem?_set_ne (show i * 4 + 1 ≠ j * 4 by omega), List.getElem?_set_ne (show i * 4 ≠ j * 4 by omega)]; exact c0
    · rw [List.getElem?_set_ne (show i * 4 + 3 ≠ j * 4 + 1 by omega), List.getElem?_set_ne (show i * 4 + 2 ≠ j * 4 + 1 by omega), List.getElem?_set_ne (show i * 4 + 1 ≠ j * 4 + 1 by omega), List.getElem?_set_ne (show i * 4 ≠ j * 4 + 1 by omega)]; exact c1
    · rw [List.getElem?_set_ne (show i * 4 + 3 ≠ j * 4 + 2 by omega), List.getElem?_set_ne (show i * 4 + 2 ≠ j * 4 + 2 by omega), List.getElem?_set_ne (show i * 4 + 1 ≠ j * 4 + 2 by omega), List.getElem?_set_ne (show i * 4 ≠ j * 4 + 2 by omega)]; exact c2
    · rw [List.getElem?_set_ne (show i * 4 + 3 ≠ j * 4 + 3 by omega), List.getElem?_set_ne (show i * 4 + 2 ≠ j * 4 + 3 by omega), List.getElem?_set_ne (show i * 4 + 1 ≠ j * 4 + 3 by omega), List.getElem?_set_ne (show i * 4 ≠ j * 4 + 3 by omega)]; exact c3
/-- append(v, q), q's cells just laid by buildSlice -/
theorem append_q1 {w : World} {ops : Array Oper} {rest : List Oper} {o : Oper} {a : Act} {Q : Exit → Act → World → Prop} (q : Qr) (n1 c1 : Nat) (A1 : Option Addr) (n2 c2 : Nat) (A2 : Option Addr) (T : TypeId) (hgd : o.guard = none) (s x : Operand)
    (ho : o.op = .call { callee := .builtin .append, args := #[s, x], argTypes := #[23, 23] }) (base n0 : Nat) (v : Value) (l : List Qr) (hs : a.eval s = v) (hown : OwnQ base w v l)
    (hx : a.eval x = .slice (some ⟨w.heap.size, 0, none⟩) 1 1)
    (hN : NQ n0 w (.agg #[.bool q.n.neg, .slice A1 n1 c1, .bool q.d.neg, .slice A2 n2 c2]) q) (hv : ∀ k, v.ownBlock = some k → k < n0) (hlen : (l.length + 1) * 64 ≤ 140737488355328) (hbase : base ≤ w.heap.size)
    (h : ∀ A cap w', OwnQ base w' (.slice A (l.length + 1) cap) (l ++ [q]) → (∀ w0 : World, w0.heap.size ≤ base → Below w0.heap.size w0 w → Below w0.heap.size w0 w') → wpList Try.prog ops Q rest (a.put o.dst (.slice A (l.length + 1) cap)) w') :
    wpList Try.prog ops Q (o :: rest) a (w.alloc (.cells #[.bool q.n.neg, .slice A1 n1 c1, .bool q.d.neg, .slice A2 n2 c2] T)) := by
  obtain ⟨u1, u2, e, h1, h2⟩ := hN
  cases e
  have hb := bl_alloc w (.cells #[.bool q.n.neg, .slice A1 n1 c1, .bool q.d.neg, .slice A2 n2 c2] T)
  have hown' := hown.below hb
  refine append_q hgd s x ho base v l hs hown' ⟨w.heap.size, 0, none⟩ 1 1 hx rfl q _ _ n1 c1 A1 n2 c2 A2 rfl rfl ?_ ?_ ?_ ?_ (Apart.below (Apart.new (l := l) (base := base) h1 h2 hv) hb) hlen (Nat.le_trans hbase hb.size) ?_
  · rw [cell_of_row _ _ _ _ _ _ (heap_alloc_new w _)]; rfl
  · rw [Addr.add_lit, cell_of_row _ _ _ _ _ _ (heap_alloc_new w _)]; rfl
  · rw [Addr.add_lit, cell_of_row _ _ _ _ _ _ (heap_alloc_new w _)]; rfl
  · rw [Addr.add_lit, cell_of_row _ _ _ _ _ _ (heap_alloc_new w _)]; rfl
  · intro g cap w' h3 h4 h5 h6
    exact h _ cap w' h3 fun w0 h0 hb0 => (hb0.trans (hb.mono hb0.size)).grown h4 (by have := hb0.size; have := hb.size; omega) (fun k e => by have := (hown.lt k e).1; omega)
end Go.Proofs.Ytnmmgegnioihmaa
