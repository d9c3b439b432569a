/- What a value holds in a world: words, integers, rationals, rows of them; how a walk keeps it. No word on any one function. -/
import Derived.Test.YtnmmgegnioihmaaProg
import Derived.Test.YtnmmgegnioihmaaPlainA
import Derived.WalkKit
import Derived.WalkSpells
import Derived.WalkLawsBesides
import Derived.Lib.Hide
import Derived.Laws.AppendOwnNone
import Derived.Deep.RegionHeld3
import Derived.Deep.DeepFit
import Derived.Deep.DeepMust
import Derived.Deep.LoopGhost
import Derived.Deep.QuietTactic
import Derived.BigQuiet
set_option linter.unusedVariables false
set_option linter.unusedSimpArgs false
namespace Go.Proofs.Ytnmmgegnioihmaa
open Go.RowKit

theorem bl_trans {w0 w1 w2 : World} (h : Below w0.heap.size w0 w1) (k : Below w1.heap.size w1 w2) : Below w0.heap.size w0 w2 := h.trans (k.mono h.size)
theorem bl_cell {w w' : World} (hb : Below w.heap.size w w') {p : Addr} {v : Value} (h : w.cell? p = some v) : w'.cell? p = some v := by
  rw [← h]; exact hb.cell (World.block_lt_of_cell? w _ h)
theorem bl_frozen {w w' : World} (hb : Below w.heap.size w w') {p : Addr} {v : Value} (h : w.cell? p = some v) : w'.frozen? p = w.frozen? p := hb.frozen (World.block_lt_of_cell? w _ h)

/-! ### rows of one cell an element -/
/-- A slice's elements, each of one cell -/
structure Row {α : Type} (enc : α → Value) (w : World) (A : Option Addr) (c : Nat) (xs : List α) : Prop where
  le : xs.length ≤ c
  mx : c ≤ maxLen
  nl : A = none → c = 0
  rd : xs ≠ [] → ∃ b off, A = some ⟨b, off, none⟩ ∧ ∀ (j : Nat) x, xs[j]? = some x → w.cell? ⟨b, off + j, none⟩ = some (enc x)
/-- .. in blocks from n0 on, none frozen -/
structure NRow {α : Type} (enc : α → Value) (n0 : Nat) (w : World) (A : Option Addr) (c : Nat) (xs : List α) : Prop extends Row enc w A c xs where
  own : xs ≠ [] → ∃ b off, A = some ⟨b, off, none⟩ ∧ n0 ≤ b ∧ ∀ (j : Nat) x, xs[j]? = some x → w.frozen? ⟨b, off + j, none⟩ = false
section
variable {α : Type} {enc : α → Value} {w w' : World} {A : Option Addr} {c n0 n1 : Nat} {xs : List α}
theorem Row.nil (enc : α → Value) (w : World) : Row enc w none 0 [] := ⟨Nat.zero_le _, by unfold maxLen; omega, fun _ => rfl, fun h => (h rfl).elim⟩
theorem NRow.nil (enc : α → Value) (n0 : Nat) (w : World) : NRow enc n0 w none 0 [] := ⟨Row.nil _ _, fun h => (h rfl).elim⟩
theorem Row.below (h : Row enc w A c xs) (hb : Below w.heap.size w w') : Row enc w' A c xs := by
  refine ⟨h.le, h.mx, h.nl, fun hx => ?_⟩
  obtain ⟨b, off, e, hc⟩ := h.rd hx
  exact ⟨b, off, e, fun j x hj => bl_cell hb (hc j x hj)⟩
theorem Row.same (h : Row enc w A c xs) (hk : ∀ k, k < w.heap.size → w'.heap[k]? = w.heap[k]?) : Row enc w' A c xs := by
  refine ⟨h.le, h.mx, h.nl, fun hx => ?_⟩
  obtain ⟨b, off, e, hc⟩ := h.rd hx
  exact ⟨b, off, e, fun j x hj => by rw [← hc j x hj]; exact World.cell?_of_block (w := w) (hk _ (World.block_lt_of_cell? w _ (hc j x hj)))⟩
theorem NRow.below (h : NRow enc n0 w A c xs) (hb : Below w.heap.size w w') : NRow enc n0 w' A c xs := by
  refine ⟨h.toRow.below hb, fun hx => ?_⟩
  obtain ⟨b, off, e, hc⟩ := h.rd hx
  obtain ⟨b', off', e', hn, hf⟩ := h.own hx
  rw [e] at e'; cases e'
  exact ⟨b, off, e, hn, fun j x hj => by rw [bl_frozen hb (hc j x hj)]; exact hf j x hj⟩
theorem NRow.mono (h : NRow enc n0 w A c xs) (hn : n1 ≤ n0) : NRow enc n1 w A c xs := by
  refine ⟨h.toRow, fun hx => ?_⟩
  obtain ⟨b, off, e, hk, hf⟩ := h.own hx
  exact ⟨b, off, e, Nat.le_trans hn hk, hf⟩
theorem NRow.setCell (h : NRow enc n0 w A c xs) {p : Addr} (hp : p.block < n0) (u : Value) : NRow enc n0 (w.setCell p u) A c xs := by
  refine ⟨⟨h.le, h.mx, h.nl, fun hx => ?_⟩, fun hx => ?_⟩
  · obtain ⟨b, off, e, hc⟩ := h.rd hx
    obtain ⟨b', off', e', hn, _⟩ := h.own hx
    rw [e] at e'; cases e'
    exact ⟨b, off, e, fun j x hj => by rw [World.cell?_setCell_other _ _ _ _ (by intro e; subst e; simp at hp; omega)]; exact hc j x hj⟩
  · obtain ⟨b, off, e, hn, hf⟩ := h.own hx
    exact ⟨b, off, e, hn, fun j x hj => by rw [World.frozen?_setCell]; exact hf j x hj⟩
theorem Row.take (h : Row enc w A c xs) (n : Nat) : Row enc w A c (xs.take n) := by
  refine ⟨by have := h.le; simp; omega, h.mx, h.nl, fun hx => ?_⟩
  obtain ⟨b, off, e, hc⟩ := h.rd (by rintro rfl; simp at hx)
  refine ⟨b, off, e, fun j x hj => hc j x ?_⟩
  rw [List.getElem?_take] at hj
  split at hj
  · exact hj
  · cases hj
theorem NRow.drop1 {x : α} {b off : Nat} (h : NRow enc n0 w (some ⟨b, off, none⟩) c (x :: xs)) : NRow enc n0 w (some ⟨b, off + 1, none⟩) (c - 1) xs := by
  refine ⟨⟨by have := h.le; simp at this; omega, by have := h.mx; omega, (fun e => by cases e), fun hx => ?_⟩, fun hx => ?_⟩
  · obtain ⟨b', off', e, hc⟩ := h.rd (by simp)
    cases e
    exact ⟨b, off + 1, rfl, fun j x hj => by rw [Nat.add_assoc, Nat.add_comm 1]; exact hc (j + 1) x (by simpa using hj)⟩
  · obtain ⟨b', off', e, hn, hf⟩ := h.own (by simp)
    cases e
    exact ⟨b, off + 1, rfl, hn, fun j x hj => by rw [Nat.add_assoc, Nat.add_comm 1]; exact hf (j + 1) x (by simpa using hj)⟩
theorem NRow.take (h : NRow enc n0 w A c xs) (n : Nat) : NRow enc n0 w A c (xs.take n) := by
  refine ⟨h.toRow.take n, fun hx => ?_⟩
  obtain ⟨b, off, e, hn, hf⟩ := h.own (by rintro rfl; simp at hx)
  refine ⟨b, off, e, hn, fun j x hj => hf j x ?_⟩
  rw [List.getElem?_take] at hj
  split at hj
  · exact hj
  · cases hj
end
/-- A block that has just been laid, the elements' values in it -/
theorem NRow.new {α : Type} {enc : α → Value} {n0 : Nat} {w : World} {b : Nat} {cs : Array Value} {T : TypeId} {xs : List α} {c : Nat} (h : w.heap[b]? = some (.cells cs T (0, 0))) (hn : n0 ≤ b) (hc : c ≤ maxLen) (hl : xs.length ≤ c)
    (hx : ∀ (j : Nat) (x : α), xs[j]? = some x → cs[j]? = some (enc x)) : NRow enc n0 w (some ⟨b, 0, none⟩) c xs := by
  refine ⟨⟨hl, hc, (fun e => by cases e), fun _ => ⟨b, 0, rfl, fun j x hj => ?_⟩⟩, fun _ => ⟨b, 0, rfl, hn, fun j x hj => ?_⟩⟩
  · unfold World.cell?; rw [Nat.zero_add]; dsimp only; rw [h]; exact hx j x hj
  · unfold World.frozen?; dsimp only; rw [h]; simp
/-- A row of the call's own, as a row -/
theorem NRow.of_own {α : Type} {enc : α → Value} {base n : Nat} {w : World} {e : TypeId} {v : Value} {xs : List α} (h : w.ownsRow base e 1 v n (xs.map enc)) : ∃ A c, v = .slice A xs.length c ∧ xs.length = n ∧ NRow enc base w A c xs := by
  have hl : xs.length = n := by have := h.1; simpa using this
  rcases h.2 with ⟨rfl, h0⟩ | ⟨g, cap, cur, rfl, hg, hh, h1, h2, h3, h4⟩
  · have : xs = [] := List.length_eq_zero_iff.1 (by omega)
    subst this
    exact ⟨none, 0, by simp [h0], hl, NRow.nil _ _ _⟩
  · refine ⟨_, cap, by rw [hl], hl, NRow.new hh hg h2 (by omega) fun j x hj => ?_⟩
    have hj2 : (xs.map enc)[j]? = some (enc x) := by rw [List.getElem?_map, hj]; rfl
    rw [← h4, List.getElem?_take] at hj2
    split at hj2
    · simpa using hj2
    · cases hj2
theorem NW.of_own {base n : Nat} {w : World} {e : TypeId} {v : Value} {xs : List Nat} (hr : ∀ x ∈ xs, x < 4294967296) (h : w.ownsRow base e 1 v n (xs.map fun x : Nat => Value.int .u32 (x : Int))) : ∃ A c, v = .slice A xs.length c ∧ xs.length = n ∧ NRow (fun x : Nat => Value.int .u32 (x : Int)) base w A c xs := NRow.of_own h
theorem own_empty (W : World) (e : TypeId) {base : Nat} (hb : base ≤ W.heap.size) : (W.alloc (.cells #[] e)).ownsRow base e 1 (.slice (some ⟨W.heap.size, 0, none⟩) 0 0) 0 [] :=
  ⟨rfl, .inr ⟨W.heap.size, 0, #[], rfl, hb, heap_alloc_new W _, Nat.le_refl _, by unfold maxLen; omega, rfl, rfl⟩⟩
theorem oneCell_map {α : Type} {enc : α → Value} (he : ∀ x, (enc x).oneCell' = true) (xs : List α) : ∀ u ∈ xs.map enc, u.oneCell' = true := fun u hu => by
  obtain ⟨x, _, rfl⟩ := List.mem_map.1 hu
  exact he x
/-- the source's cells, for append -/
theorem Row.news {α : Type} {enc : α → Value} {w : World} {a : Addr} {c : Nat} {xs : List α} (h : Row enc w (some a) c xs) : ∀ j u, (xs.map enc)[j]? = some u → w.cell? (a.add j) = some u := fun j u hj => by
  rw [List.getElem?_map] at hj
  obtain ⟨x, hx, rfl⟩ := Option.map_eq_some_iff.1 hj
  obtain ⟨b, off, e, hc⟩ := h.rd (by rintro rfl; simp at hx)
  cases e
  rw [← hc j x hx, Addr.add_lit]
theorem Row.none_nil {α : Type} {enc : α → Value} {w : World} {c : Nat} {xs : List α} (h : Row enc w none c xs) : xs = [] ∧ c = 0 := by
  refine ⟨?_, h.nl rfl⟩
  cases xs with
  | nil => rfl
  | cons x xs => obtain ⟨b, off, e, _⟩ := h.rd (by simp); cases e
/-- append(v, ys...) onto a row of the call's own, ys a slice that is read, nil let in -/
theorem append_row {α : Type} {enc : α → Value} {P : Program} {w : World} {ops : Array Oper} {rest : List Oper} {o : Oper} {a : Act} {Q : Exit → Act → World → Prop} (he : ∀ x, (enc x).oneCell' = true) (hgd : o.guard = none) (s x : Operand) (t : TypeId)
    (ho : o.op = .call { callee := .builtin .append, args := #[s, x], argTypes := #[t, t] }) (base : Nat) (e : TypeId) (i : TypeInfo) (z : Value) (bytes : Nat) (ht : P.underlying t = some (.slice e)) (hi : P.info? e = some i) (hz : i.zero = some z)
    (hsize : i.size = 1) (hby : i.bytes = bytes) (hzs : z.cells.size = 1) (v : Value) (n : Nat) (xs : List Value) (hs : a.eval s = v) (hown : w.ownsRow base e 1 v n xs) (A : Option Addr) (c : Nat) (ys : List α) (hsrc : Row enc w A c ys)
    (hx : a.eval x = .slice A ys.length c) (h63 : n + ys.length ≤ maxLen) (hbytes : (n + ys.length) * bytes ≤ 140737488355328) (hbase : base ≤ w.heap.size)
    (h : ∀ v' w', w'.ownsRow base e 1 v' (n + ys.length) (xs ++ ys.map enc) → w.grownBy w' v.ownBlock → wpList P ops Q rest (a.put o.dst v') w') : wpList P ops Q (o :: rest) a w := by
  cases A with
  | none =>
    obtain ⟨rfl, rfl⟩ := hsrc.none_nil
    exact wpList_append_own_none hgd s x t ho base e i 1 ht hi v n xs hs hown hx (h v w (by simpa using hown) ⟨rfl, rfl, rfl, Nat.le_refl _, fun _ _ _ => rfl⟩)
  | some ad =>
    exact wpList_append_own w hgd s x t ho base e i z 1 bytes ht hi hz hsize hby hzs (by decide) v n xs hs hown ad ys.length c (ys.map enc) hx (by simp) hsrc.news (oneCell_map he ys) h63 hbytes hbase (fun v' w' h1 h2 _ => h v' w' h1 h2)
theorem grown_below {B : Nat} {w w1 w2 : World} (h : Below B w w1) {v : Value} (hg : w1.grownBy w2 v.ownBlock) (hB : B ≤ w1.heap.size) (hv : ∀ k, v.ownBlock = some k → B ≤ k) : Below B w w2 := h.grown hg hB hv
/-- a word -/
def encW (x : Nat) : Value := .int .u32 (x : Int)
/-- v is a slice that holds these words -/
def IsW (w : World) (v : Value) (xs : List Nat) : Prop := Rng xs ∧ ∃ A c, v = .slice A xs.length c ∧ Row encW w A c xs
def NW (n0 : Nat) (w : World) (v : Value) (xs : List Nat) : Prop := Rng xs ∧ ∃ A c, v = .slice A xs.length c ∧ NRow encW n0 w A c xs
def IsZ (w : World) (v : Value) (z : Zr) : Prop := ∃ v1, v = .agg #[.bool z.neg, v1] ∧ IsW w v1 z.ws
def NZ (n0 : Nat) (w : World) (v : Value) (z : Zr) : Prop := ∃ v1, v = .agg #[.bool z.neg, v1] ∧ NW n0 w v1 z.ws
def IsQ (w : World) (v : Value) (q : Qr) : Prop := ∃ v1 v2, v = .agg #[.bool q.n.neg, v1, .bool q.d.neg, v2] ∧ IsW w v1 q.n.ws ∧ IsW w v2 q.d.ws
def NQ (n0 : Nat) (w : World) (v : Value) (q : Qr) : Prop := ∃ v1 v2, v = .agg #[.bool q.n.neg, v1, .bool q.d.neg, v2] ∧ NW n0 w v1 q.n.ws ∧ NW n0 w v2 q.d.ws
section
variable {n0 n1 : Nat} {w w' : World} {v : Value} {xs : List Nat} {z : Zr} {q : Qr}
theorem NW.is (h : NW n0 w v xs) : IsW w v xs := by obtain ⟨g, A, c, e, h⟩ := h; exact ⟨g, A, c, e, h.toRow⟩
theorem NZ.is (h : NZ n0 w v z) : IsZ w v z := by obtain ⟨v1, e, h⟩ := h; exact ⟨v1, e, h.is⟩
theorem NQ.is (h : NQ n0 w v q) : IsQ w v q := by obtain ⟨v1, v2, e, h, k⟩ := h; exact ⟨v1, v2, e, h.is, k.is⟩
theorem IsW.below (h : IsW w v xs) (hb : Below w.heap.size w w') : IsW w' v xs := by obtain ⟨g, A, c, e, h⟩ := h; exact ⟨g, A, c, e, h.below hb⟩
theorem IsZ.below (h : IsZ w v z) (hb : Below w.heap.size w w') : IsZ w' v z := by obtain ⟨v1, e, h⟩ := h; exact ⟨v1, e, h.below hb⟩
theorem IsQ.below (h : IsQ w v q) (hb : Below w.heap.size w w') : IsQ w' v q := by obtain ⟨v1, v2, e, h, k⟩ := h; exact ⟨v1, v2, e, h.below hb, k.below hb⟩
theorem NW.below (h : NW n0 w v xs) (hb : Below w.heap.size w w') : NW n0 w' v xs := by obtain ⟨g, A, c, e, h⟩ := h; exact ⟨g, A, c, e, h.below hb⟩
theorem NZ.below (h : NZ n0 w v z) (hb : Below w.heap.size w w') : NZ n0 w' v z := by obtain ⟨v1, e, h⟩ := h; exact ⟨v1, e, h.below hb⟩
theorem NQ.below (h : NQ n0 w v q) (hb : Below w.heap.size w w') : NQ n0 w' v q := by obtain ⟨v1, v2, e, h, k⟩ := h; exact ⟨v1, v2, e, h.below hb, k.below hb⟩
theorem NW.mono (h : NW n0 w v xs) (hn : n1 ≤ n0) : NW n1 w v xs := by obtain ⟨g, A, c, e, h⟩ := h; exact ⟨g, A, c, e, h.mono hn⟩
theorem NZ.mono (h : NZ n0 w v z) (hn : n1 ≤ n0) : NZ n1 w v z := by obtain ⟨v1, e, h⟩ := h; exact ⟨v1, e, h.mono hn⟩
theorem NQ.mono (h : NQ n0 w v q) (hn : n1 ≤ n0) : NQ n1 w v q := by obtain ⟨v1, v2, e, h, k⟩ := h; exact ⟨v1, v2, e, h.mono hn, k.mono hn⟩
theorem NW.setCell (h : NW n0 w v xs) {p : Addr} (hp : p.block < n0) (u : Value) : NW n0 (w.setCell p u) v xs := by obtain ⟨g, A, c, e, h⟩ := h; exact ⟨g, A, c, e, h.setCell hp u⟩
theorem NZ.setCell (h : NZ n0 w v z) {p : Addr} (hp : p.block < n0) (u : Value) : NZ n0 (w.setCell p u) v z := by obtain ⟨v1, e, h⟩ := h; exact ⟨v1, e, h.setCell hp u⟩
theorem NQ.setCell (h : NQ n0 w v q) {p : Addr} (hp : p.block < n0) (u : Value) : NQ n0 (w.setCell p u) v q := by obtain ⟨v1, v2, e, h, k⟩ := h; exact ⟨v1, v2, e, h.setCell hp u, k.setCell hp u⟩
end

/-- The frame of a walk: what lay before the call is as it was (w); what the call has laid by w0 is as it was, but for the blocks K, which keep their shape -/
structure Fr (w w0 : World) (K : Nat → Prop) (W : World) : Prop where
  b : Below w.heap.size w W
  size : w0.heap.size ≤ W.heap.size
  block : ∀ i, i < w0.heap.size → ¬ K i → W.heap[i]? = w0.heap[i]?
  shape : ∀ (i : Nat) (cs : Array Value) (T : TypeId) (fr : Nat × Nat), w0.heap[i]? = some (.cells cs T fr) → ∃ cs' : Array Value, cs'.size = cs.size ∧ W.heap[i]? = some (.cells cs' T fr)
theorem Fr.start {w w0 : World} {K : Nat → Prop} (h : Below w.heap.size w w0) : Fr w w0 K w0 := ⟨h, Nat.le_refl _, fun _ _ _ => rfl, fun _ cs _ _ h => ⟨cs, rfl, h⟩⟩
theorem Fr.drew {w w0 : World} {K : Nat → Prop} {W : World} (h : Fr w w0 K W) : Fr w w0 K W.drew := ⟨h.b.drew, h.size, h.block, h.shape⟩
theorem Fr.call {w w0 : World} {K : Nat → Prop} {W W' : World} (h : Fr w w0 K W) (hb : Below W.heap.size W W') : Fr w w0 K W' :=
  ⟨bl_trans h.b hb, Nat.le_trans h.size hb.size, fun i hi hk => (hb.block i (Nat.lt_of_lt_of_le hi h.size)).trans (h.block i hi hk), fun i cs T fr hc => by
    obtain ⟨cs', hs, hc'⟩ := h.shape i cs T fr hc
    exact ⟨cs', hs, (hb.block i (Array.getElem?_eq_some_iff.1 hc').1).trans hc'⟩⟩
theorem heap_setCell_at (W : World) (p : Addr) (u : Value) (cs : Array Value) (T : TypeId) (fr : Nat × Nat) (h : W.heap[p.block]? = some (.cells cs T fr)) :
    (W.setCell p u).heap[p.block]? = some (.cells (if p.spot.isSome then cs else cs.setIfInBounds p.off u) T fr) := by
  simp only [World.setCell, Array.getElem?_modify, if_pos, h, Option.map_some]
theorem Fr.setCell {w w0 : World} {K : Nat → Prop} {W : World} (h : Fr w w0 K W) {p : Addr} (hK : K p.block) (hp : w.heap.size ≤ p.block) (u : Value) : Fr w w0 K (W.setCell p u) :=
  ⟨h.b.setCell hp u, by simp [World.setCell]; exact h.size, fun i hi hk => (Below.heap_setCell _ _ _ _ (by rintro rfl; exact hk hK)).trans (h.block i hi hk), fun i cs T fr hc => by
    obtain ⟨cs', hs, hc'⟩ := h.shape i cs T fr hc
    by_cases e : i = p.block
    · subst e
      refine ⟨_, ?_, heap_setCell_at W p u cs' T fr hc'⟩
      split <;> simp [hs]
    · exact ⟨cs', hs, (Below.heap_setCell _ _ _ _ e).trans hc'⟩⟩
theorem Fr.cell {w w0 : World} {K : Nat → Prop} {p : Addr} {v : Value} (h : w0.cell? p = some v) (hK : ¬ K p.block) : ∀ W, Fr w w0 K W → W.cell? p = some v := fun W hW => by
  rw [← h]; exact World.cell?_of_block (w := w0) (hW.block _ (World.block_lt_of_cell? w0 _ h) hK)
/-- a struct of four cells that is read -/
abbrev Box4 (w w0 : World) (K : Nat → Prop) (k : Nat) (a b c d : Value) : Prop := ∀ W, Fr w w0 K W → W.cell? ⟨k, 0, none⟩ = some a ∧ W.cell? ⟨k, 1, none⟩ = some b ∧ W.cell? ⟨k, 2, none⟩ = some c ∧ W.cell? ⟨k, 3, none⟩ = some d
theorem Box4.mk {w w0 : World} {K : Nat → Prop} {k : Nat} {a b c d : Value} (hK : ¬ K k) (h : w0.cell? ⟨k, 0, none⟩ = some a ∧ w0.cell? ⟨k, 1, none⟩ = some b ∧ w0.cell? ⟨k, 2, none⟩ = some c ∧ w0.cell? ⟨k, 3, none⟩ = some d) : Box4 w w0 K k a b c d :=
  fun W hW => ⟨Fr.cell h.1 hK W hW, Fr.cell h.2.1 hK W hW, Fr.cell h.2.2.1 hK W hW, Fr.cell h.2.2.2 hK W hW⟩
abbrev Box2 (w w0 : World) (K : Nat → Prop) (k : Nat) (a b : Value) : Prop := ∀ W, Fr w w0 K W → W.cell? ⟨k, 0, none⟩ = some a ∧ W.cell? ⟨k, 1, none⟩ = some b
theorem Box2.mk {w w0 : World} {K : Nat → Prop} {k : Nat} {a b : Value} (hK : ¬ K k) (h : w0.cell? ⟨k, 0, none⟩ = some a ∧ w0.cell? ⟨k, 1, none⟩ = some b) : Box2 w w0 K k a b :=
  fun W hW => ⟨Fr.cell h.1 hK W hW, Fr.cell h.2 hK W hW⟩
/-- A block of k's own cells, none frozen -/
def Two (k : Nat) (W : World) : Prop := ∃ x0 x1 T, W.heap[k]? = some (.cells #[x0, x1] T (0, 0))
def Four (k : Nat) (W : World) : Prop := ∃ x0 x1 x2 x3 T, W.heap[k]? = some (.cells #[x0, x1, x2, x3] T (0, 0))
theorem Two.below {k : Nat} {W W' : World} (h : Two k W) (hb : Below W.heap.size W W') : Two k W' := by
  obtain ⟨x0, x1, T, h⟩ := h
  exact ⟨x0, x1, T, (hb.block k (Array.getElem?_eq_some_iff.1 h).1).trans h⟩
theorem Four.below {k : Nat} {W W' : World} (h : Four k W) (hb : Below W.heap.size W W') : Four k W' := by
  obtain ⟨x0, x1, x2, x3, T, h⟩ := h
  exact ⟨x0, x1, x2, x3, T, (hb.block k (Array.getElem?_eq_some_iff.1 h).1).trans h⟩
theorem Fr.two {w w0 : World} {K : Nat → Prop} {W : World} (h : Fr w w0 K W) {k : Nat} (h0 : Two k w0) : Two k W := by
  obtain ⟨x0, x1, T, h0⟩ := h0
  obtain ⟨cs', hs, hc⟩ := h.shape _ _ _ _ h0
  obtain ⟨l⟩ := cs'
  match l, hs with
  | [y0, y1], _ => exact ⟨y0, y1, T, hc⟩
theorem Fr.four {w w0 : World} {K : Nat → Prop} {W : World} (h : Fr w w0 K W) {k : Nat} (h0 : Four k w0) : Four k W := by
  obtain ⟨x0, x1, x2, x3, T, h0⟩ := h0
  obtain ⟨cs', hs, hc⟩ := h.shape _ _ _ _ h0
  obtain ⟨l⟩ := cs'
  match l, hs with
  | [y0, y1, y2, y3], _ => exact ⟨y0, y1, y2, y3, T, hc⟩
theorem Two.cells {k : Nat} {W : World} (h : Two k W) : (∃ x, W.cell? ⟨k, 0, none⟩ = some x) ∧ (∃ x, W.cell? ⟨k, 1, none⟩ = some x) ∧ W.frozen? ⟨k, 0, none⟩ = false ∧ W.frozen? ⟨k, 1, none⟩ = false := by
  obtain ⟨x0, x1, T, h⟩ := h
  refine ⟨⟨x0, ?_⟩, ⟨x1, ?_⟩, ?_, ?_⟩ <;> (first | unfold World.cell? | unfold World.frozen?) <;> rw [h] <;> rfl
theorem Four.cells {k : Nat} {W : World} (h : Four k W) : (∃ x, W.cell? ⟨k, 0, none⟩ = some x) ∧ (∃ x, W.cell? ⟨k, 1, none⟩ = some x) ∧ (∃ x, W.cell? ⟨k, 2, none⟩ = some x) ∧ (∃ x, W.cell? ⟨k, 3, none⟩ = some x) ∧
    W.frozen? ⟨k, 0, none⟩ = false ∧ W.frozen? ⟨k, 1, none⟩ = false ∧ W.frozen? ⟨k, 2, none⟩ = false ∧ W.frozen? ⟨k, 3, none⟩ = false := by
  obtain ⟨x0, x1, x2, x3, T, h⟩ := h
  refine ⟨⟨x0, ?_⟩, ⟨x1, ?_⟩, ⟨x2, ?_⟩, ⟨x3, ?_⟩, ?_, ?_, ?_, ?_⟩ <;> (first | unfold World.cell? | unfold World.frozen?) <;> rw [h] <;> rfl
theorem Two.alloc {W : World} (x0 x1 : Value) (T : TypeId) {k : Nat} (hk : k = W.heap.size) : Two k (W.alloc (.cells #[x0, x1] T)) := by
  subst hk; exact ⟨x0, x1, T, by simpa using heap_alloc_new W (.cells #[x0, x1] T)⟩
theorem Four.alloc {W : World} (x0 x1 x2 x3 : Value) (T : TypeId) {k : Nat} (hk : k = W.heap.size) : Four k (W.alloc (.cells #[x0, x1, x2, x3] T)) := by
  subst hk; exact ⟨x0, x1, x2, x3, T, by simpa using heap_alloc_new W (.cells #[x0, x1, x2, x3] T)⟩
theorem bl_alloc (w : World) (o : Obj) : Below w.heap.size w (w.alloc o) := (Below.refl _ _).alloc (Nat.le_refl _) o
theorem bl_alloc2 {w w' : World} (h : Below w.heap.size w w') (o : Obj) : Below w.heap.size w (w'.alloc o) := h.alloc h.size o
theorem Fr.put2 {w w0 : World} {K : Nat → Prop} {W : World} (h : Fr w w0 K W) {k : Nat} (hK : K k) (hp : w.heap.size ≤ k) (a b : Value) : Fr w w0 K ((W.setCell ⟨k, 0, none⟩ a).setCell ⟨k, 1, none⟩ b) :=
  (h.setCell (p := ⟨k, 0, none⟩) hK hp a).setCell (p := ⟨k, 1, none⟩) hK hp b
theorem Fr.put4 {w w0 : World} {K : Nat → Prop} {W : World} (h : Fr w w0 K W) {k : Nat} (hK : K k) (hp : w.heap.size ≤ k) (a b c d : Value) : Fr w w0 K ((((W.setCell ⟨k, 0, none⟩ a).setCell ⟨k, 1, none⟩ b).setCell ⟨k, 2, none⟩ c).setCell ⟨k, 3, none⟩ d) :=
  (((h.setCell (p := ⟨k, 0, none⟩) hK hp a).setCell (p := ⟨k, 1, none⟩) hK hp b).setCell (p := ⟨k, 2, none⟩) hK hp c).setCell (p := ⟨k, 3, none⟩) hK hp d

theorem ret_int {k : IntKind} {a b : Int} (h : a = b) : Ending.returned (.int k a) = .returned (.int k b) := by rw [h]
theorem ret_bool {a b : Bool} (h : a = b) : Ending.returned (.bool a) = .returned (.bool b) := by rw [h]
/-! ### what a call leaves -/
def PostZ (w : World) (i : Int) (e : Ending) (w' : World) : Prop := ∃ z v, Hid (z = canZ i) ∧ e = .returned v ∧ NZ w.heap.size w' v z ∧ Below w.heap.size w w'
def PostW (w : World) (xs : List Nat) (e : Ending) (w' : World) : Prop := ∃ ys v, Hid (ys = xs) ∧ e = .returned v ∧ NW w.heap.size w' v ys ∧ Below w.heap.size w w'
/-- a rational, and a bound on its words -/
def PostQ (w : World) (x : Rat) (B : Nat) (e : Ending) (w' : World) : Prop := ∃ q v, Hid (q = canQ x) ∧ q.S ≤ B ∧ e = .returned v ∧ NQ w.heap.size w' v q ∧ Below w.heap.size w w'
theorem postZ_put2 {w w1 : World} {i : Int} {v : Value} {z : Zr} {k n1 : Nat} {a b : Value} (hz : NZ n1 w1 v z) (e : z = canZ i) (hb : Below w.heap.size w w1) (h1 : w.heap.size ≤ k) (h2 : k < n1) :
    PostZ w i (.returned v) ((w1.setCell ⟨k, 0, none⟩ a).setCell ⟨k, 1, none⟩ b) :=
  ⟨z, v, e, rfl, ((hz.setCell (p := ⟨k, 0, none⟩) h2 a).setCell (p := ⟨k, 1, none⟩) h2 b).mono (by omega), (hb.setCell (p := ⟨k, 0, none⟩) h1 a).setCell (p := ⟨k, 1, none⟩) h1 b⟩
theorem postQ_put4 {w w1 : World} {x : Rat} {B : Nat} {v : Value} {q : Qr} {k n1 : Nat} {a b c d : Value} (hz : NQ n1 w1 v q) (e : q = canQ x) (hB : q.S ≤ B) (hb : Below w.heap.size w w1) (h1 : w.heap.size ≤ k) (h2 : k < n1) :
    PostQ w x B (.returned v) ((((w1.setCell ⟨k, 0, none⟩ a).setCell ⟨k, 1, none⟩ b).setCell ⟨k, 2, none⟩ c).setCell ⟨k, 3, none⟩ d) :=
  ⟨q, v, e, hB, rfl, ((((hz.setCell (p := ⟨k, 0, none⟩) h2 a).setCell (p := ⟨k, 1, none⟩) h2 b).setCell (p := ⟨k, 2, none⟩) h2 c).setCell (p := ⟨k, 3, none⟩) h2 d).mono (by omega),
    (((hb.setCell (p := ⟨k, 0, none⟩) h1 a).setCell (p := ⟨k, 1, none⟩) h1 b).setCell (p := ⟨k, 2, none⟩) h1 c).setCell (p := ⟨k, 3, none⟩) h1 d⟩
end Go.Proofs.Ytnmmgegnioihmaa
namespace Go.Proofs.Ytnmmgegnioihmaa
open Go.RowKit

theorem trim_take_last {xs : List Nat} {m : Nat} (h : m < xs.length) (h0 : xs.getD m 0 = 0) : trim (xs.take (m + 1)) = trim (xs.take m) := by
  rw [List.take_succ_eq_append_getElem h]
  rw [List.getD_eq_getElem?_getD, List.getElem?_eq_getElem h] at h0
  simp only [Option.getD_some] at h0
  rw [h0, trim_zero]
theorem trim_take_stop {xs : List Nat} {m : Nat} (h : m < xs.length) (h0 : xs.getD m 0 ≠ 0) : trim (xs.take (m + 1)) = xs.take (m + 1) := by
  rw [List.take_succ_eq_append_getElem h]
  rw [List.getD_eq_getElem?_getD, List.getElem?_eq_getElem h] at h0
  simp only [Option.getD_some] at h0
  rw [trim_snoc _ h0]
/-- the length in a slot: for a loop's measure -/
def lenOf : Value → Nat | .slice _ n _ => n | _ => 0
set_option maxHeartbeats 400000 in
theorem trim_at (A : Option Addr) (c : Nat) (xs : List Nat) (w : World) (h : Row encW w A c xs) :
    Calls Try.prog 145 #[.slice A xs.length c] w fun e w' => e = .returned (.slice A (trim xs).length c) ∧ w = w' := by
  have hle := h.le
  have hc := h.mx
  unfold maxLen at hc
  go_enter Try.func145, Try.ntmps145
  go_wp2
  go_loop [0] (fun v => ∃ k : Nat, k ≤ xs.length ∧ v = .slice A k c ∧ trim (xs.take k) = trim xs) (fun v => lenOf v)
  case atStart => exact ⟨xs.length, Nat.le_refl _, rfl, by rw [List.take_length]⟩
  case round =>
    obtain ⟨k, hk, rfl, ht⟩ := hrel
    have HT := Lib.hid ht
    clear ht
    cases k with
    | zero =>
      go_wp2
      go_ret
      exact ⟨by rw [← HT.out]; simp [trim_nil], rfl⟩
    | succ m =>
      obtain ⟨b, off, rfl, hcell⟩ := h.rd (by rintro rfl; simp at hk)
      have hx := hcell m (xs.getD m 0) (by rw [List.getD_eq_getElem?_getD, List.getElem?_eq_getElem (by omega)]; rfl)
      unfold encW at hx
      by_cases h0 : xs.getD m 0 = 0
      · have H0 := trim_take_last (by omega) h0
        have b0 : (((xs[m]?.getD 0 : Nat) : Int) == 0) = true := by rw [← List.getD_eq_getElem?_getD, h0]; rfl
        have H1 := Lib.hid H0
        clear h0 H0
        go_wp2
        go_round
        case rel => exact ⟨m, by omega, rfl, by rw [← H1.out]; exact HT.out⟩
        case measure => simp [lenOf]
      · have H0 := trim_take_stop (by omega) h0
        have b0 : (((xs[m]?.getD 0 : Nat) : Int) == 0) = false := by rw [← List.getD_eq_getElem?_getD, beq_eq_false_iff_ne]; omega
        have H1 := Lib.hid H0
        clear h0 H0
        go_wp2
        go_ret
        refine ⟨?_, rfl⟩
        have := H1.out
        rw [HT.out] at this
        rw [this]; simp; omega

set_option maxHeartbeats 400000 in
theorem made_at (neg : Bool) (A : Option Addr) (c : Nat) (xs : List Nat) (w : World) (h : Row encW w A c xs) :
    Calls Try.prog 142 #[.bool neg, .slice A xs.length c] w fun e w' => e = .returned (.agg #[.bool (neg && decide (0 < (trim xs).length)), .slice A (trim xs).length c]) ∧ Below w.heap.size w w' := by
  have hc := h.mx
  unfold maxLen at hc
  have hl := trim_len xs
  have hle := h.le
  generalize hn : (trim xs).length = n at *
  have HN := Lib.hid hn
  clear hn
  go_enter Try.func142, Try.ntmps142
  cases neg
  all_goals
    go_wp2_with (go_at_call 145; refine (trim_at _ _ _ _ (h.below ((Below.refl _ _).alloc (Nat.le_refl _) _))).mono ?_; rintro e w' ⟨rfl, rfl⟩; rw [HN.out])
    refine bodyPost_ret (v := .agg #[.bool _, .slice A n c]) (by simp [results, Try.results142, go_sem]; rfl) rfl ⟨by simp, ?_⟩
    exact (Below.refl _ _).alloc (Nat.le_refl _) _

theorem made_NZ {n0 : Nat} {w : World} {A : Option Addr} {c : Nat} {xs : List Nat} (b : Bool) (hr : Rng xs) (h : NRow encW n0 w A c xs) {i : Int} (hi : (if b then -(val xs : Int) else (val xs : Int)) = i) :
    NZ n0 w (.agg #[.bool (b && decide (0 < (trim xs).length)), .slice A (trim xs).length c]) (canZ i) := by
  subst hi
  rw [← made_eq b xs hr]
  obtain ⟨k, hk, e⟩ := trim_prefix xs
  refine ⟨_, rfl, ?_, A, c, rfl, ?_⟩
  · dsimp only; rw [e]; exact hr.take k
  · dsimp only; rw [e]; exact h.take k
theorem made_IsZ {w : World} {A : Option Addr} {c : Nat} {xs : List Nat} (b : Bool) (hr : Rng xs) (h : Row encW w A c xs) {i : Int} (hi : (if b then -(val xs : Int) else (val xs : Int)) = i) :
    IsZ w (.agg #[.bool (b && decide (0 < (trim xs).length)), .slice A (trim xs).length c]) (canZ i) := by
  subst hi
  rw [← made_eq b xs hr]
  obtain ⟨k, hk, e⟩ := trim_prefix xs
  refine ⟨_, rfl, ?_, A, c, rfl, ?_⟩
  · dsimp only; rw [e]; exact hr.take k
  · dsimp only; rw [e]; exact h.take k
end Go.Proofs.Ytnmmgegnioihmaa
namespace Go.Proofs.Ytnmmgegnioihmaa
open Go.RowKit

theorem trim_len_zero {xs : List Nat} (h : Rng xs) : (trim xs).length = 0 ↔ val xs = 0 := by
  rw [trim_eq h, List.length_eq_zero_iff, wordsOf_eq_nil]
theorem sign_zero {z : Zr} (h : (trim z.ws).length = 0) (hr : Rng z.ws) : z.val.sign = 0 := by
  have := (trim_len_zero hr).1 h
  unfold Zr.val; rw [this]; cases z.neg <;> rfl
theorem sign_neg {z : Zr} (h : (trim z.ws).length ≠ 0) (hr : Rng z.ws) (hn : z.neg = true) : z.val.sign = -1 := by
  have := (not_congr (trim_len_zero hr)).1 h
  unfold Zr.val; rw [hn, if_pos rfl]; exact Int.sign_eq_neg_one_of_neg (by omega)
theorem sign_pos {z : Zr} (h : (trim z.ws).length ≠ 0) (hr : Rng z.ws) (hn : z.neg = false) : z.val.sign = 1 := by
  have := (not_congr (trim_len_zero hr)).1 h
  unfold Zr.val; rw [hn]; exact Int.sign_eq_one_of_pos (by simp; omega)

set_option maxHeartbeats 400000 in
theorem Sign_calls (v : Value) (z : Zr) (w : World) (h : IsZ w v z) :
    Calls Try.prog 123 #[v] w fun e w' => e = .returned (.int .i64 z.val.sign) ∧ Below w.heap.size w w' := by
  obtain ⟨v1, rfl, hr, A, c, rfl, hrow⟩ := h
  by_cases h0 : (trim z.ws).length = 0
  · have hs := sign_zero h0 hr
    have HS := Lib.hid hs
    have H0 := Lib.hid h0
    clear hs h0
    go_enter Try.func123, Try.ntmps123
    go_wp2_with (go_at_call 145; refine (trim_at _ _ _ _ (hrow.below ((Below.refl _ _).alloc (Nat.le_refl _) _))).mono ?_; rintro e w' ⟨rfl, rfl⟩; rw [H0.out])
    go_ret
    exact ⟨ret_int HS.out.symm, (Below.refl _ _).alloc (Nat.le_refl _) _⟩
  · have hb : (((trim z.ws).length : Int) == 0) = false := by rw [beq_eq_false_iff_ne]; omega
    cases hn : z.neg
    · have hs := sign_pos h0 hr hn
      have HS := Lib.hid hs
      clear hs h0
      go_enter Try.func123, Try.ntmps123
      go_wp2_with (go_at_call 145; refine (trim_at _ _ _ _ (hrow.below ((Below.refl _ _).alloc (Nat.le_refl _) _))).mono ?_; rintro e w' ⟨rfl, rfl⟩)
      go_ret
      exact ⟨ret_int HS.out.symm, (Below.refl _ _).alloc (Nat.le_refl _) _⟩
    · have hs := sign_neg h0 hr hn
      have HS := Lib.hid hs
      clear hs h0
      go_enter Try.func123, Try.ntmps123
      go_wp2_with (go_at_call 145; refine (trim_at _ _ _ _ (hrow.below ((Below.refl _ _).alloc (Nat.le_refl _) _))).mono ?_; rintro e w' ⟨rfl, rfl⟩)
      go_ret
      exact ⟨ret_int HS.out.symm, (Below.refl _ _).alloc (Nat.le_refl _) _⟩

theorem u64_neg {i : Int} (h0 : i < 0) (h1 : -9223372036854775808 ≤ i) : IntKind.u64.wrap (-IntKind.u64.wrap i) = (i.natAbs : Int) := by
  simp only [IntKind.wrap]; simp [IntKind.bits, IntKind.signed]; omega
theorem u64_pos {i : Int} (h0 : ¬ i < 0) (h1 : i ≤ 9223372036854775807) : IntKind.u64.wrap i = (i.natAbs : Int) := by
  simp only [IntKind.wrap]; simp [IntKind.bits, IntKind.signed]; omega
theorem val_two (n : Nat) : val [n % 4294967296, n / 4294967296] = n := by simp [val]; omega
theorem rng_two {n : Nat} (h : n ≤ 9223372036854775808) : Rng [n % 4294967296, n / 4294967296] := Rng.cons (by omega) (Rng.cons (by omega) Rng.nil)
theorem nrow_two {n0 : Nat} {w : World} {b : Nat} {n : Nat} (h : n ≤ 9223372036854775808) (T : TypeId) (hn : n0 ≤ b) (hw : w.heap[b]? = some (.cells #[.int .u32 ((n : Int) % 4294967296), .int .u32 ((n : Int) / 4294967296)] T (0, 0))) :
    NRow encW n0 w (some ⟨b, 0, none⟩) 2 [n % 4294967296, n / 4294967296] :=
  NRow.new hw hn (by unfold maxLen; omega) (by simp) (by
    intro j x hj
    match j with
    | 0 => simp at hj ⊢; subst hj; simp [encW]
    | 1 => simp at hj ⊢; subst hj; simp [encW]
    | j + 2 => simp at hj)
set_option maxHeartbeats 400000 in
theorem FromInt64_calls (i : Int) (w : World) (h1 : -9223372036854775808 ≤ i) (h2 : i ≤ 9223372036854775807) :
    Calls Try.prog 116 #[.int .i64 i] w (PostZ w i) := by
  have hm : i.natAbs ≤ 9223372036854775808 := by omega
  by_cases h0 : i < 0
  · have e1 := u64_neg h0 h1
    have hv : (if true then -(val [i.natAbs % 4294967296, i.natAbs / 4294967296] : Int) else (val [i.natAbs % 4294967296, i.natAbs / 4294967296] : Int)) = i := by rw [val_two]; simp; omega
    have hd2 : (i.natAbs : Int) / 4294967296 % 4294967296 = (i.natAbs : Int) / 4294967296 := by omega
    have HV := Lib.hid hv
    clear hv
    generalize i.natAbs = m at *
    go_enter Try.func116, Try.ntmps116
    go_wp2_with fail
    have hN := nrow_two (n0 := w.heap.size + 1) (w := (w.alloc (.cells #[.bool false, .slice none 0 0] 41)).alloc (.cells #[.int .u32 ((m : Int) % 4294967296), .int .u32 ((m : Int) / 4294967296)] 101)) (b := w.heap.size + 1) hm 101 (Nat.le_refl _) (by simpa using heap_alloc_new (w.alloc (.cells #[.bool false, .slice none 0 0] 41)) _)
    refine (made_at _ _ 2 _ _ hN.toRow).mono ?_
    rintro e w1 ⟨rfl, hb1⟩
    have hb := bl_trans (bl_alloc2 (bl_alloc w _) _) hb1
    obtain ⟨⟨x0, y0⟩, ⟨x1, y1⟩, g0, g1⟩ := ((Two.alloc (W := w) (.bool false) (.slice none 0 0) 41 rfl).below (bl_trans (bl_alloc _ _) hb1)).cells
    have hZ := made_NZ true (rng_two hm) (hN.below hb1) HV.out
    go_wp2
    refine bodyPost_ret (v := .agg #[.bool _, .slice _ _ 2]) (by simp [results, Try.results116, go_sem, y0, y1]) rfl (postZ_put2 hZ rfl hb (Nat.le_refl _) (Nat.lt_succ_self _))
  · have e1 := u64_pos h0 h2
    have hv : (if false then -(val [i.natAbs % 4294967296, i.natAbs / 4294967296] : Int) else (val [i.natAbs % 4294967296, i.natAbs / 4294967296] : Int)) = i := by rw [val_two]; simp; omega
    have hd2 : (i.natAbs : Int) / 4294967296 % 4294967296 = (i.natAbs : Int) / 4294967296 := by omega
    have HV := Lib.hid hv
    clear hv
    generalize i.natAbs = m at *
    go_enter Try.func116, Try.ntmps116
    go_wp2_with fail
    have hN := nrow_two (n0 := w.heap.size + 1) (w := (w.alloc (.cells #[.bool false, .slice none 0 0] 41)).alloc (.cells #[.int .u32 ((m : Int) % 4294967296), .int .u32 ((m : Int) / 4294967296)] 101)) (b := w.heap.size + 1) hm 101 (Nat.le_refl _) (by simpa using heap_alloc_new (w.alloc (.cells #[.bool false, .slice none 0 0] 41)) _)
    refine (made_at _ _ 2 _ _ hN.toRow).mono ?_
    rintro e w1 ⟨rfl, hb1⟩
    have hb := bl_trans (bl_alloc2 (bl_alloc w _) _) hb1
    obtain ⟨⟨x0, y0⟩, ⟨x1, y1⟩, g0, g1⟩ := ((Two.alloc (W := w) (.bool false) (.slice none 0 0) 41 rfl).below (bl_trans (bl_alloc _ _) hb1)).cells
    have hZ := made_NZ false (rng_two hm) (hN.below hb1) HV.out
    go_wp2
    refine bodyPost_ret (v := .agg #[.bool _, .slice _ _ 2]) (by simp [results, Try.results116, go_sem, y0, y1]) rfl (postZ_put2 hZ rfl hb (Nat.le_refl _) (Nat.lt_succ_self _))

theorem info_u32 : (Try.prog.info? 101).map (fun i => (i.zero, i.size, i.bytes)) = some (some (.int .u32 0), 1, 4) := by kernel_rfl
set_option maxHeartbeats 400000 in
theorem Clone_calls (v : Value) (xs : List Nat) (w : World) (h : IsW w v xs) (hlen : xs.length ≤ 35184372088832) :
    Calls Try.prog 167 #[v] w (PostW w xs) := by
  obtain ⟨hr, A, c, rfl, hrow⟩ := h
  have hnil := fun (w : World) (a : Option Addr) (n c n' c' : Nat) => Lib.run_eql_slice_nil (P := Try.prog) w _ _ a n c n' c' Try.underlying39
  have HL := Lib.hid hlen
  clear hlen
  obtain ⟨i0, hi, hz0, hz1, hz2⟩ := info_parts info_u32
  go_enter Try.func167, Try.ntmps167
  cases A with
  | none =>
    obtain rfl : xs = [] := by
      cases xs with
      | nil => rfl
      | cons x xs => obtain ⟨b, off, e, _⟩ := hrow.rd (by simp); cases e
    go_wp2
    go_ret
    exact ⟨[], _, rfl, rfl, ⟨Rng.nil, none, 0, rfl, NRow.nil _ _ _⟩, Below.refl _ _⟩
  | some a =>
    have h1 : xs.length ≤ maxLen := Nat.le_trans hrow.le hrow.mx
    go_wp2_with (at_builtin; refine wpList_append_own _ rfl _ _ 39 rfl w.heap.size 101 i0 (.int .u32 0) 1 4 Try.underlying39 hi hz0 hz1 hz2 rfl (by decide) (.slice (some ⟨w.heap.size, 0, none⟩) 0 0) 0 [] rfl (own_empty w _ (Nat.le_refl _)) a xs.length c (xs.map encW) rfl (by simp) (hrow.below (bl_alloc _ _)).news (oneCell_map (fun _ => rfl) xs) (by omega) (by have := HL.out; omega) (by simp) ?_; intro v' w1 hown hg _)
    go_ret
    rw [Nat.zero_add, List.nil_append] at hown
    obtain ⟨A', c', rfl, -, hN⟩ := NRow.of_own hown
    exact ⟨xs, _, rfl, rfl, ⟨hr, A', c', rfl, hN⟩, grown_below (bl_alloc w _) hg (by simp) (by simp [Value.ownBlock])⟩

set_option maxHeartbeats 1000000 in
theorem whole_Neg_calls (v : Value) (z : Zr) (w : World) (h : IsZ w v z) (hlen : z.ws.length ≤ 35184372088832) :
    Calls Try.prog 143 #[v] w (PostZ w (-z.val)) := by
  obtain ⟨v1, rfl, hz⟩ := h
  have HL := Lib.hid hlen
  clear hlen
  go_enter Try.func143, Try.ntmps143
  go_wp2
  generalize hw0 : World.alloc _ _ = w0
  have hb0 : Below w.heap.size w w0 := by subst hw0; exact bl_alloc2 (bl_alloc _ _) _
  have t1 : Box2 w w0 (· = w.heap.size + 1) w.heap.size (.bool z.neg) v1 := Box2.mk (by omega) (by subst hw0; refine ⟨?_, ?_⟩ <;> go_simp)
  have k0 : Two (w.heap.size + 1) w0 := by subst hw0; exact Two.alloc _ _ _ (by simp)
  have f0 : Fr w w0 (· = w.heap.size + 1) w0 := Fr.start hb0
  have z0 : w0.heap.size = w.heap.size + 2 := by subst hw0; simp
  clear hw0
  go_region_held3 (fun W => Fr w w0 (· = w.heap.size + 1) W) (first | assumption | exact f0.drew | exact Fr.call (by assumption) (by assumption) | exact Fr.put2 f2 (by rfl) (by omega) _ _) (first
    | (go_at_call 167; (with_reducible refine (Clone_calls _ _ _ (hz.below (Fr.b (by assumption))) HL.out).mono ?_); rintro e w1 ⟨ys, v2, hy, rfl, r1, hb1⟩; obtain ⟨hr, A, c, rfl, hN⟩ := r1)
    | (go_at_call 142; (with_reducible refine (made_at _ _ _ _ _ hN.toRow).mono ?_); rintro e w2 ⟨rfl, hb2⟩; have f2 := Fr.call (by assumption) hb2; obtain ⟨⟨x0, y0⟩, ⟨x1, y1⟩, g0, g1⟩ := (Fr.two f2 k0).cells))
  go_wp2
  have hZ := made_NZ (!z.neg) hr (hN.below hb2) (i := -z.val) (by rw [hy.out]; unfold Zr.val; cases z.neg <;> simp)
  refine bodyPost_ret (v := .agg #[.bool _, .slice _ _ _]) (by simp [results, Try.results143, go_sem, y0, y1]) rfl (postZ_put2 hZ rfl f2.b (by omega) (by simp; omega))
end Go.Proofs.Ytnmmgegnioihmaa
