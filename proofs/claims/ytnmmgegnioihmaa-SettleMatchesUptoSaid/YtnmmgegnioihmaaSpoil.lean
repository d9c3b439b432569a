/- spoil of layer 36: writes into the words of a row of the caller's own. -/
import Derived.Test.YtnmmgegnioihmaaVecA
import Derived.Great.Walk
set_option linter.unusedVariables false
set_option linter.unusedSimpArgs false
namespace Go.Proofs.Ytnmmgegnioihmaa
open Go.RowKit

/-- words that may be written, outside block g -/
def WOk (base top g : Nat) (W : World) (A : Option Addr) (n : Nat) : Prop := n ≤ maxLen ∧ (0 < n → ∃ b off, A = some ⟨b, off, none⟩ ∧ (base ≤ b ∧ b < top) ∧ b ≠ g ∧ ∀ t, t < n → (∃ v, W.cell? ⟨b, off + t, none⟩ = some v) ∧ W.frozen? ⟨b, off + t, none⟩ = false)
/-- elements from i on, whole -/
structure SpOk (base top g n : Nat) (W : World) (i : Nat) : Prop where
  el : ∀ j, i ≤ j → j < n → ∃ A1 n1 c1 A2 n2 c2, (∃ x, W.cell? ⟨g, j * 4, none⟩ = some x) ∧ W.cell? ⟨g, j * 4 + 1, none⟩ = some (.slice A1 n1 c1) ∧ (∃ x, W.cell? ⟨g, j * 4 + 2, none⟩ = some x) ∧ W.cell? ⟨g, j * 4 + 3, none⟩ = some (.slice A2 n2 c2) ∧ WOk base top g W A1 n1 ∧ WOk base top g W A2 n2
  fz : ∀ o, W.frozen? ⟨g, o, none⟩ = false
theorem cell_set_some {W : World} {p a : Addr} {u : Value} (h : ∃ v, W.cell? a = some v) : ∃ v, (W.setCell p u).cell? a = some v := by
  obtain ⟨v, h⟩ := h
  by_cases e : p = a
  · subst e; exact ⟨u, World.cell?_setCell_same _ _ _ h⟩
  · exact ⟨v, (World.cell?_setCell_other _ _ _ _ e).trans h⟩
theorem WOk.set {base top g n : Nat} {W : World} {A : Option Addr} {p : Addr} {u : Value} (h : WOk base top g W A n) : WOk base top g (W.setCell p u) A n :=
  ⟨h.1, fun hn => by
    obtain ⟨b, off, e, h1, h2, h3⟩ := h.2 hn
    exact ⟨b, off, e, h1, h2, fun t ht => ⟨cell_set_some (h3 t ht).1, (World.frozen?_setCell _ _ _ _).trans (h3 t ht).2⟩⟩⟩
theorem SpOk.far {base top g n i : Nat} {W : World} {p : Addr} {u : Value} (h : SpOk base top g n W i) (hp : p.block ≠ g) : SpOk base top g n (W.setCell p u) i :=
  ⟨fun j h1 h2 => by
    obtain ⟨A1, n1, c1, A2, n2, c2, x0, x1, x2, x3, k1, k2⟩ := h.el j h1 h2
    exact ⟨A1, n1, c1, A2, n2, c2, cell_set_some x0, (World.cell?_setCell_other _ _ _ _ (by rintro rfl; exact hp rfl)).trans x1, cell_set_some x2, (World.cell?_setCell_other _ _ _ _ (by rintro rfl; exact hp rfl)).trans x3, k1.set, k2.set⟩,
   fun o => (World.frozen?_setCell _ _ _ _).trans (h.fz o)⟩
theorem SpOk.near {base top g n i o : Nat} {W : World} {u : Value} (h : SpOk base top g n W i) (ho : o < i * 4) : SpOk base top g n (W.setCell ⟨g, o, none⟩ u) i :=
  ⟨fun j h1 h2 => by
    obtain ⟨A1, n1, c1, A2, n2, c2, x0, x1, x2, x3, k1, k2⟩ := h.el j h1 h2
    exact ⟨A1, n1, c1, A2, n2, c2, cell_set_some x0, (World.cell?_setCell_other _ _ _ _ (by intro e; injection e; omega)).trans x1, cell_set_some x2, (World.cell?_setCell_other _ _ _ _ (by intro e; injection e; omega)).trans x3, k1.set, k2.set⟩,
   fun o => (World.frozen?_setCell _ _ _ _).trans (h.fz o)⟩
theorem SpOk.next {base top g n i : Nat} {W : World} (h : SpOk base top g n W i) : SpOk base top g n W (i + 1) := ⟨fun j h1 h2 => h.el j (by omega) h2, h.fz⟩
theorem NW.wok {base g : Nat} {w : World} {v : Value} {xs : List Nat} (h : ∀ W : World, (∀ k, k ≠ g → W.heap[k]? = w.heap[k]?) → NW base W v xs) : ∃ A c, v = .slice A xs.length c ∧ WOk base w.heap.size g w A xs.length := by
  obtain ⟨hr, A, c, rfl, hN⟩ := h w (fun _ _ => rfl)
  refine ⟨A, c, rfl, Nat.le_trans hN.le hN.mx, fun hn => ?_⟩
  have hne : xs ≠ [] := by rintro rfl; simp at hn
  obtain ⟨b, off, e, hb, hf⟩ := hN.own hne
  obtain ⟨b', off', e', hc⟩ := hN.rd hne
  rw [e] at e'; cases e'
  refine ⟨b, off, e, ⟨hb, World.block_lt_of_cell? w _ (hc 0 _ (List.getElem?_eq_getElem hn))⟩, ?_, fun t ht => ⟨⟨_, hc t _ (List.getElem?_eq_getElem ht)⟩, hf t _ (List.getElem?_eq_getElem ht)⟩⟩
  rintro rfl
  obtain ⟨_, A2, c2, e2, hN2⟩ := h { w with heap := w.heap.setIfInBounds b (.cells #[] 43 (0, 0)) } (fun k hk => by
    show (w.heap.setIfInBounds b _)[k]? = _
    rw [Array.getElem?_setIfInBounds_ne (Ne.symm hk)])
  injection e2 with e2 _ e3
  subst e2
  obtain ⟨b2, off2, e4, hc2⟩ := hN2.rd hne
  rw [e] at e4; cases e4
  have h1 := hc2 0 _ (List.getElem?_eq_getElem hn)
  have hlt : b < w.heap.size := World.block_lt_of_cell? w _ (hc 0 _ (List.getElem?_eq_getElem hn))
  unfold World.cell? at h1
  simp [Array.getElem?_setIfInBounds, hlt] at h1
theorem OwnQ.spOk {base g cap : Nat} {w : World} {n : Nat} {l : List Qr} (h : OwnQ base w (.slice (some ⟨g, 0, none⟩) n cap) l) : SpOk base w.heap.size g l.length w 0 := by
  obtain ⟨xs, ho, hx⟩ := h
  have hl : xs.length = l.length * 4 := ho.1
  have ho' := ho
  rcases ho.2 with ⟨h0, _⟩ | ⟨g', cap', cur, e, hg, hh, h1, h2, h3, h4⟩
  · cases h0
  · cases e
    have hc : ∀ j, j < l.length * 4 → w.cell? ⟨g, j, none⟩ = xs[j]? := fun j hj => ho'.cellAt j hj
    refine ⟨fun j _ hj => ?_, fun o => ho'.frozenAt o⟩
    obtain ⟨v1, v2, c0, c1, c2, c3, hw⟩ := hx j _ (List.getElem?_eq_getElem hj)
    obtain ⟨A1, d1, rfl, k1⟩ := NW.wok (g := g) (w := w) (fun W hW => (hw W fun k cs T fr hbk hk hne => hW k (by rintro rfl; exact hne rfl)).1)
    obtain ⟨A2, d2, rfl, k2⟩ := NW.wok (g := g) (w := w) (fun W hW => (hw W fun k cs T fr hbk hk hne => hW k (by rintro rfl; exact hne rfl)).2)
    exact ⟨A1, _, d1, A2, _, d2, ⟨_, (hc _ (by omega)).trans c0⟩, (hc _ (by omega)).trans c1, ⟨_, (hc _ (by omega)).trans c2⟩, (hc _ (by omega)).trans c3, k1, k2⟩
theorem SpOk.below {base top g n i : Nat} {w W : World} (h : SpOk base top g n w i) (hb : Below w.heap.size w W) (hl : i < n) : SpOk base top g n W i := by
  have hW : ∀ {A : Option Addr} {m : Nat}, WOk base top g w A m → WOk base top g W A m := fun k => ⟨k.1, fun hm => by
    obtain ⟨b, off, e, h1, h2, h3⟩ := k.2 hm
    refine ⟨b, off, e, h1, h2, fun t ht => ?_⟩
    obtain ⟨⟨v, hv⟩, hf⟩ := h3 t ht
    exact ⟨⟨v, bl_cell hb hv⟩, (bl_frozen hb hv).trans hf⟩⟩
  refine ⟨fun j h1 h2 => ?_, fun o => ?_⟩
  · obtain ⟨A1, n1, c1, A2, n2, c2, ⟨x, x0⟩, x1, ⟨y, x2⟩, x3, k1, k2⟩ := h.el j h1 h2
    exact ⟨A1, n1, c1, A2, n2, c2, ⟨x, bl_cell hb x0⟩, bl_cell hb x1, ⟨y, bl_cell hb x2⟩, bl_cell hb x3, hW k1, hW k2⟩
  · obtain ⟨A1, n1, c1, A2, n2, c2, ⟨x, x0⟩, _⟩ := h.el i (Nat.le_refl _) hl
    rw [← h.fz o]
    exact World.frozen?_of_block (hb.block g (World.block_lt_of_cell? w _ x0))
/-- what changes lies between base and top -/
def Mid (base top : Nat) (w W : World) : Prop := Below base w W ∧ ∀ k, top ≤ k → W.heap[k]? = w.heap[k]?
theorem Mid.refl (base top : Nat) (w : World) : Mid base top w w := ⟨Below.refl _ _, fun _ _ => rfl⟩
theorem Mid.set {base top : Nat} {w W : World} (h : Mid base top w W) {p : Addr} (hp : base ≤ p.block ∧ p.block < top) (u : Value) : Mid base top w (W.setCell p u) :=
  ⟨h.1.setCell hp.1 u, fun k hk => (Below.heap_setCell _ _ _ _ (by omega)).trans (h.2 k hk)⟩
theorem OwnQ.far {base : Nat} {w w' : World} {v : Value} {l : List Qr} (h : OwnQ base w v l) (hne : ∀ k, base ≤ k → w'.heap[k]? = w.heap[k]?) : OwnQ base w' v l := by
  obtain ⟨xs, ho, hx⟩ := h
  refine ⟨xs, ⟨ho.1, ?_⟩, fun j q hj => ?_⟩
  · rcases ho.2 with h0 | ⟨g, cap, cur, e, hg, hh, r⟩
    · exact .inl h0
    · exact .inr ⟨g, cap, cur, e, hg, (hne g hg).trans hh, r⟩
  · obtain ⟨v1, v2, c0, c1, c2, c3, hw⟩ := hx j q hj
    exact ⟨v1, v2, c0, c1, c2, c3, fun W hW => hw W fun k cs T fr hbk hk ho => (hW k cs T fr hbk ((hne k hbk).trans hk) ho).trans (hne k hbk)⟩
set_option maxHeartbeats 4000000 in
set_option maxRecDepth 8000 in
theorem spoil_calls (base : Nat) (v : Value) (l : List Qr) (w6 w : World) (h : OwnQ base w6 v l) (hbase : base ≤ w6.heap.size) (h6 : Below w6.heap.size w6 w) :
    Calls Try.prog 31 #[v] w fun e w' => e = .returned (.tuple #[]) ∧ Mid base w6.heap.size w w' := by
  obtain ⟨A, c, rfl, hA⟩ := h.form
  have hlm := h.isR.row.2
  have hmx : l.length ≤ maxLen := Nat.le_trans hlm.le hlm.mx
  have hsp : l.length = 0 ∨ ∃ g, A = some ⟨g, 0, none⟩ ∧ (base ≤ g ∧ g < w6.heap.size) ∧ SpOk base w6.heap.size g l.length w 0 := by
    cases A with
    | none => have := hlm.none_nil.1; subst this; exact .inl rfl
    | some a =>
      obtain ⟨g, rfl⟩ := hA a rfl
      by_cases hl0 : l.length = 0
      · exact .inl hl0
      · exact .inr ⟨g, rfl, h.lt g rfl, h.spOk.below h6 (by omega)⟩
  clear hlm hA h hbase h6
  generalize w6.heap.size = top at *
  generalize l.length = n at *
  unfold maxLen at hmx
  go_enter Try.func31, Try.ntmps31
  go_wp2
  go_loopw [2] (fun i wr => ∃ k : Nat, k ≤ n ∧ i = .int .i64 k ∧ Mid base top w wr ∧ (n = 0 ∨ ∃ g, A = some ⟨g, 0, none⟩ ∧ (base ≤ g ∧ g < top) ∧ SpOk base top g n wr k)) (fun i _ => n - (intOf i).toNat)
  case atStart => exact ⟨0, Nat.zero_le _, rfl, Mid.refl _ _ _, hsp⟩
  case round =>
    obtain ⟨k, hk, rfl, hb, hs⟩ := hrel
    by_cases hlt : k < n
    · rcases hs with rfl | ⟨g, rfl, hg, hs⟩
      · omega
      obtain ⟨A1, n1, c1, A2, n2, c2, x0, x1, x2, x3, k1, k2⟩ := hs.el k (Nat.le_refl _) hlt
      have m1 := k1.1
      have m2 := k2.1
      unfold maxLen at m1 m2
      go_wp2
      go_loopw [3] (fun j wj => ∃ m : Nat, m ≤ n1 ∧ j = .int .i64 m ∧ Mid base top w wj ∧ SpOk base top g n wj k ∧ wj.cell? ⟨g, k * 4 + 1, none⟩ = some (.slice A1 n1 c1) ∧ wj.cell? ⟨g, k * 4 + 3, none⟩ = some (.slice A2 n2 c2) ∧ WOk base top g wj A1 n1 ∧ WOk base top g wj A2 n2) (fun j _ => n1 - (intOf j).toNat)
      case atStart => exact ⟨0, Nat.zero_le _, rfl, hb, hs, x1, x3, k1, k2⟩
      case round =>
        obtain ⟨m, hm, rfl, hbj, hsj, z1, z3, q1, q2⟩ := hrel
        by_cases hlt1 : m < n1
        · obtain ⟨b, off, rfl, hbb, hbg, ht⟩ := q1.2 (by omega)
          obtain ⟨⟨u, hu⟩, hf⟩ := ht m hlt1
          go_wp2
          go_roundw
          case rel => exact ⟨m + 1, by omega, by simp, hbj.set hbb _, hsj.far hbg, (World.cell?_setCell_far _ _ _ _ hbg).trans z1, (World.cell?_setCell_far _ _ _ _ hbg).trans z3, q1.set, q2.set⟩
          case measure => simp [intOf]; omega
        · obtain rfl : m = n1 := by omega
          clear x0 x1 x2 x3 k1 k2 hs hb
          go_wp2
          go_loopw [4] (fun j wj => ∃ m : Nat, m ≤ n2 ∧ j = .int .i64 m ∧ Mid base top w wj ∧ SpOk base top g n wj k ∧ wj.cell? ⟨g, k * 4 + 3, none⟩ = some (.slice A2 n2 c2) ∧ WOk base top g wj A2 n2) (fun j _ => n2 - (intOf j).toNat)
          case atStart => exact ⟨0, Nat.zero_le _, rfl, hbj, hsj, z3, q2⟩
          case round =>
            clear hbj hsj z1 z3 q1 q2
            obtain ⟨m, hm, rfl, hbj, hsj, z3, q2⟩ := hrel
            by_cases hlt1 : m < n2
            · obtain ⟨b, off, rfl, hbb, hbg, ht⟩ := q2.2 (by omega)
              obtain ⟨⟨u, hu⟩, hf⟩ := ht m hlt1
              go_wp2
              go_roundw
              case rel => exact ⟨m + 1, by omega, by simp, hbj.set hbb _, hsj.far hbg, (World.cell?_setCell_far _ _ _ _ hbg).trans z3, q2.set⟩
              case measure => simp [intOf]; omega
            · obtain rfl : m = n2 := by omega
              obtain ⟨B1, e1, d1, B2, e2, d2, ⟨u0, y0⟩, y1, ⟨u2, y2⟩, _, _, _⟩ := hsj.el k (Nat.le_refl _) hlt
              have f0 := hsj.fz (k * 4)
              have f1 := hsj.fz (k * 4 + 1)
              have f2 := hsj.fz (k * 4 + 2)
              have f3 := hsj.fz (k * 4 + 3)
              go_wp2
              go_roundw
              case rel => exact ⟨k + 1, by omega, by simp, (((hbj.set hg _).set hg _).set hg _).set hg _, .inr ⟨g, rfl, hg, (((hsj.next.near (by omega)).near (by omega)).near (by omega)).near (by omega)⟩⟩
              case measure => simp [intOf]; omega
    · obtain rfl : k = n := by omega
      go_wp2
      exact Go.Great.bodyPost_end0 rfl rfl ⟨rfl, hb⟩
end Go.Proofs.Ytnmmgegnioihmaa
