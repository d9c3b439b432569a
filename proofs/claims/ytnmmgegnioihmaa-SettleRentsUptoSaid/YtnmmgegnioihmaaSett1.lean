/- Package settle: Owed, total, Rest. -/
import Derived.Test.YtnmmgegnioihmaaVec1
set_option linter.unusedVariables false
set_option linter.unusedSimpArgs false
namespace Go.Proofs.Ytnmmgegnioihmaa
open Go.RowKit

/-- the amount owed in both markets -/
def owedR (a p r n : Rat) : Rat := a * p + n * (r - a)
set_option maxHeartbeats 2000000 in
theorem settle_Owed_calls (va vp vr vn : Value) (a p r n : Qr) (w : World) (ha : IsQ w va a) (hp : IsQ w vp p) (hr : IsQ w vr r) (hn : IsQ w vn n) (hlen : 8 * (2 * a.S + p.S + r.S + n.S) + 8 ≤ 35184372088832) :
    Calls Try.prog 36 #[va, vp, vr, vn] w (PostQ w (owedR a.val p.val r.val n.val) (2 * a.S + p.S + r.S + n.S)) := by
  have hA := ha
  have hP := hp
  have hR := hr
  have hN := hn
  obtain ⟨A1, c1, A2, c2, rfl⟩ := ha.slices
  obtain ⟨A3, c3, A4, c4, rfl⟩ := hp.slices
  obtain ⟨A5, c5, A6, c6, rfl⟩ := hr.slices
  obtain ⟨A7, c7, A8, c8, rfl⟩ := hn.slices
  have HL := Lib.hid hlen
  clear hlen ha hp hr hn
  go_enter Try.func36, Try.ntmps36
  go_wp2
  generalize hw0 : World.alloc _ _ = w0
  have hb0 : Below w.heap.size w w0 := by subst hw0; exact bl_alloc2 (bl_alloc2 (bl_alloc2 (bl_alloc2 (bl_alloc _ _) _) _) _) _
  have t1 : Box4 w w0 (· = w.heap.size + 4) w.heap.size (.bool a.n.neg) (.slice A1 a.n.ws.length c1) (.bool a.d.neg) (.slice A2 a.d.ws.length c2) := Box4.mk (by omega) (by subst hw0; refine ⟨?_, ?_, ?_, ?_⟩ <;> go_simp)
  have t2 : Box4 w w0 (· = w.heap.size + 4) (w.heap.size + 1) (.bool p.n.neg) (.slice A3 p.n.ws.length c3) (.bool p.d.neg) (.slice A4 p.d.ws.length c4) := Box4.mk (by omega) (by subst hw0; refine ⟨?_, ?_, ?_, ?_⟩ <;> go_simp)
  have t3 : Box4 w w0 (· = w.heap.size + 4) (w.heap.size + 2) (.bool r.n.neg) (.slice A5 r.n.ws.length c5) (.bool r.d.neg) (.slice A6 r.d.ws.length c6) := Box4.mk (by omega) (by subst hw0; refine ⟨?_, ?_, ?_, ?_⟩ <;> go_simp)
  have t4 : Box4 w w0 (· = w.heap.size + 4) (w.heap.size + 3) (.bool n.n.neg) (.slice A7 n.n.ws.length c7) (.bool n.d.neg) (.slice A8 n.d.ws.length c8) := Box4.mk (by omega) (by subst hw0; refine ⟨?_, ?_, ?_, ?_⟩ <;> go_simp)
  have k0 : Four (w.heap.size + 4) w0 := by subst hw0; exact Four.alloc _ _ _ _ _ (by simp)
  have f0 : Fr w w0 (· = w.heap.size + 4) w0 := Fr.start hb0
  have z0 : w0.heap.size = w.heap.size + 5 := by subst hw0; simp
  clear hw0
  go_region_held3 (fun W => Fr w w0 (· = w.heap.size + 4) W) (first | assumption | exact Fr.drew (by assumption) | exact Fr.call (by assumption) (by assumption) | exact Fr.put4 f2 (by rfl) (by omega) _ _ _ _) (first
    | (go_at_call 34; (with_reducible refine (frac_Mul_calls _ _ a p _ (hA.below (Fr.b (by assumption))) (hP.below (Fr.b (by assumption))) (by have := HL.out; omega)).mono ?_); rintro e w1 ⟨q1, x1, HQ1, hS1, rfl, hN1, hb1⟩; have f1 := Fr.call (by assumption) hb1; obtain ⟨B1, d1, B2, d2, rfl⟩ := hN1.is.slices; have hq1 := hN1.is)
    | (go_at_call 38; (with_reducible refine (frac_Sub_calls _ _ r a _ (hR.below (Fr.b (by assumption))) (hA.below (Fr.b (by assumption))) (by have := HL.out; omega)).mono ?_); rintro e w2 ⟨q2, x2, HQ2, hS2, rfl, hN2, hb2⟩; obtain ⟨B3, d3, B4, d4, rfl⟩ := hN2.is.slices; have hq2 := hN2.is)
    | (go_at_call 34; (with_reducible refine (frac_Mul_calls _ _ n q2 _ (hN.below (Fr.b (by assumption))) hq2 (by have := HL.out; omega)).mono ?_); rintro e w3 ⟨q3, x3, HQ3, hS3, rfl, hN3, hb3⟩; obtain ⟨B5, d5, B6, d6, rfl⟩ := hN3.is.slices; have hq3 := hN3.is)
    | (go_at_call 37; (with_reducible refine (frac_Add_calls _ _ q1 q3 _ (hq1.below (bl_trans hb2 hb3)) hq3 (by have := HL.out; omega)).mono ?_); rintro e w4 ⟨q4, x4, HQ4, hS4, rfl, hN4, hb4⟩; have f2 := Fr.call (by assumption) hb4; have z4 := Fr.size (Fr.call (Fr.call f1 hb2) hb3); obtain ⟨v5, v6, rfl, ⟨r5, D5, m5, rfl, h5⟩, ⟨r6, D6, m6, rfl, h6⟩⟩ := hN4; obtain ⟨⟨x0, y0⟩, ⟨x1, y1⟩, ⟨x2, y2⟩, ⟨x3, y3⟩, g0, g1, g2, g3⟩ := (Fr.four f2 k0).cells))
  go_wp2
  exact bodyPost_ret (v := .agg #[.bool _, .slice _ _ _, .bool _, .slice _ _ _]) (by simp [results, Try.results36, go_sem, y0, y1, y2, y3]) rfl (postQ_put4 (n1 := w3.heap.size) ⟨_, _, rfl, ⟨r5, D5, m5, rfl, h5⟩, ⟨r6, D6, m6, rfl, h6⟩⟩ (by
    rw [HQ4.out, HQ1.out, HQ3.out, HQ2.out]; simp only [canQ_val]; rfl) (by omega) f2.b (by omega) (by omega))
def sumV (xs : List Rat) : Rat := xs.foldl (· + ·) 0
theorem sumV_snoc (xs : List Rat) (x : Rat) : sumV (xs ++ [x]) = sumV xs + x := by simp [sumV]
theorem canQ_zero : canQ 0 = zeroQ := by
  have := canQ_int 0
  rw [Rat.intCast_zero] at this
  rw [this]; unfold canZ zeroQ; simp [wordsOf]
theorem zeroN (n0 : Nat) (w : World) : NQ n0 w (.agg #[.bool zeroQ.n.neg, .slice none zeroQ.n.ws.length 0, .bool zeroQ.d.neg, .slice none zeroQ.d.ws.length 0]) zeroQ :=
  ⟨_, _, rfl, ⟨Rng.nil, none, 0, rfl, NRow.nil _ _ _⟩, ⟨Rng.nil, none, 0, rfl, NRow.nil _ _ _⟩⟩
theorem Four.setO {k : Nat} {W : World} (h : Four k W) {p : Addr} (hne : k ≠ p.block) (u : Value) : Four k (W.setCell p u) := by
  obtain ⟨x0, x1, x2, x3, T, h⟩ := h
  exact ⟨x0, x1, x2, x3, T, (Below.heap_setCell _ _ _ _ hne).trans h⟩
theorem Four.putO {k j : Nat} {W : World} (h : Four k W) (hne : k ≠ j) (a b c d : Value) : Four k ((((W.setCell ⟨j, 0, none⟩ a).setCell ⟨j, 1, none⟩ b).setCell ⟨j, 2, none⟩ c).setCell ⟨j, 3, none⟩ d) :=
  (((h.setO (p := ⟨j, 0, none⟩) hne a).setO (p := ⟨j, 1, none⟩) hne b).setO (p := ⟨j, 2, none⟩) hne c).setO (p := ⟨j, 3, none⟩) hne d
theorem Four.put {k : Nat} {W : World} (h : Four k W) (a b c d : Value) : Four k ((((W.setCell ⟨k, 0, none⟩ a).setCell ⟨k, 1, none⟩ b).setCell ⟨k, 2, none⟩ c).setCell ⟨k, 3, none⟩ d) := by
  obtain ⟨x0, x1, x2, x3, T, h⟩ := h
  have h0 := heap_setCell_at W ⟨k, 0, none⟩ a _ T (0, 0) h
  have h1 := heap_setCell_at _ ⟨k, 1, none⟩ b _ T (0, 0) h0
  have h2 := heap_setCell_at _ ⟨k, 2, none⟩ c _ T (0, 0) h1
  have h3 := heap_setCell_at _ ⟨k, 3, none⟩ d _ T (0, 0) h2
  exact ⟨a, b, c, d, T, by simpa using h3⟩
theorem Four.at4 {k : Nat} {W : World} (h : Four k W) (a b c d : Value) : let W' := (((W.setCell ⟨k, 0, none⟩ a).setCell ⟨k, 1, none⟩ b).setCell ⟨k, 2, none⟩ c).setCell ⟨k, 3, none⟩ d
    W'.cell? ⟨k, 0, none⟩ = some a ∧ W'.cell? ⟨k, 1, none⟩ = some b ∧ W'.cell? ⟨k, 2, none⟩ = some c ∧ W'.cell? ⟨k, 3, none⟩ = some d := by
  obtain ⟨x0, x1, x2, x3, T, h⟩ := h
  have h0 := heap_setCell_at W ⟨k, 0, none⟩ a _ T (0, 0) h
  have h1 := heap_setCell_at _ ⟨k, 1, none⟩ b _ T (0, 0) h0
  have h2 := heap_setCell_at _ ⟨k, 2, none⟩ c _ T (0, 0) h1
  have h3 := heap_setCell_at _ ⟨k, 3, none⟩ d _ T (0, 0) h2
  intro W'
  refine ⟨?_, ?_, ?_, ?_⟩ <;> (rw [cell_of_row _ _ _ _ _ _ h3]; simp)
set_option maxHeartbeats 2000000 in
theorem settle_total_calls (A : Option Addr) (c : Nat) (l : List Qr) (M : Nat) (w : World) (h : IsR w (.slice A l.length c) l) (hS : ∀ q ∈ l, q.S ≤ M) (h1 : 1 ≤ M) (hll : l.length ≤ 1099511627776) (hlen : 8 * (1 + (l.length + 1) * M) + 8 ≤ 35184372088832) :
    Calls Try.prog 95 #[.slice A l.length c] w (PostQ w (sumV (l.map Qr.val)) (1 + l.length * M)) := by
  have hR := h.row.2
  have HL := Lib.hid hlen
  have HS := Lib.hid hS
  clear hlen hS
  go_enter Try.func95, Try.ntmps95
  go_wp2
  generalize hw0 : World.alloc _ _ = w0
  have hb0 : Below w.heap.size w w0 := by subst hw0; exact bl_alloc2 (bl_alloc _ _) _
  have k0 : Four w.heap.size w0 := by subst hw0; exact (Four.alloc _ _ _ _ _ rfl).below (bl_alloc _ _)
  have k1 : Four (w.heap.size + 1) w0 := by subst hw0; exact Four.alloc _ _ _ _ _ (by simp)
  have hz : w0.cell? ⟨w.heap.size + 1, 0, none⟩ = some (.bool false) ∧ w0.cell? ⟨w.heap.size + 1, 1, none⟩ = some (.slice none 0 0) ∧ w0.cell? ⟨w.heap.size + 1, 2, none⟩ = some (.bool false) ∧ w0.cell? ⟨w.heap.size + 1, 3, none⟩ = some (.slice none 0 0) := by
    subst hw0; refine ⟨?_, ?_, ?_, ?_⟩ <;> go_simp
  have z0 : w.heap.size + 2 ≤ w0.heap.size := by subst hw0; simp
  clear hw0
  go_loopw [9] (fun i wr => ∃ (k : Nat) (q : Qr) (A1 : Option Addr) (c1 : Nat) (A2 : Option Addr) (c2 : Nat), k ≤ l.length ∧ i = .int .i64 k ∧
    (wr.cell? ⟨w.heap.size + 1, 0, none⟩ = some (.bool q.n.neg) ∧ wr.cell? ⟨w.heap.size + 1, 1, none⟩ = some (.slice A1 q.n.ws.length c1) ∧ wr.cell? ⟨w.heap.size + 1, 2, none⟩ = some (.bool q.d.neg) ∧ wr.cell? ⟨w.heap.size + 1, 3, none⟩ = some (.slice A2 q.d.ws.length c2)) ∧
    NQ (w.heap.size + 2) wr (.agg #[.bool q.n.neg, .slice A1 q.n.ws.length c1, .bool q.d.neg, .slice A2 q.d.ws.length c2]) q ∧ Four w.heap.size wr ∧ Four (w.heap.size + 1) wr ∧ Hid (q = canQ (sumV ((l.take k).map Qr.val))) ∧ q.S ≤ 1 + k * M ∧ Below w.heap.size w wr ∧ w.heap.size + 2 ≤ wr.heap.size) (fun i _ => l.length - (intOf i).toNat)
  case atStart => exact ⟨0, zeroQ, none, 0, none, 0, Nat.zero_le _, rfl, hz, zeroN _ _, k0, k1, Lib.hid canQ_zero.symm, by simp [zeroQ_S], hb0, z0⟩
  case round =>
    obtain ⟨k, q, A1, c1, A2, c2, hk, rfl, ⟨y0, y1, y2, y3⟩, hq, k0', k1', HQ, hSq, hb, hz'⟩ := hrel
    clear hz k0 k1 z0 hb0
    by_cases hlt : k < l.length
    · obtain ⟨b, off, A3, c3, A4, c4, rfl, x0, x1, x2, x3, hx⟩ := (hR.below hb).at hlt
      have hSx := getD_S HS.out h1 k
      obtain ⟨x, hxe⟩ : ∃ x, x = l.getD k zeroQ := ⟨_, rfl⟩
      have HX := Lib.hid hxe
      rw [← hxe] at hSx x0 x1 x2 x3 hx
      clear hxe
      have hmul : (k + 1) * M ≤ (l.length + 1) * M := Nat.mul_le_mul_right _ (by omega)
      have e1 : (k + 1) * M = k * M + M := by rw [Nat.add_mul, Nat.one_mul]
      have HLL : Hid (8 * (q.S + x.S) + 8 ≤ 35184372088832) := Lib.hid (by have := HL.out; omega)
      have HSS : Hid (q.S + x.S ≤ 1 + (k + 1) * M) := Lib.hid (by omega)
      clear hmul e1 hSx hSq
      have X0 := fun o => bl_cell (bl_alloc wr o) x0
      have X1 := fun o => bl_cell (bl_alloc wr o) x1
      have X2 := fun o => bl_cell (bl_alloc wr o) x2
      have X3 := fun o => bl_cell (bl_alloc wr o) x3
      have Y0 := fun o => bl_cell (bl_alloc wr o) y0
      have Y1 := fun o => bl_cell (bl_alloc wr o) y1
      have Y2 := fun o => bl_cell (bl_alloc wr o) y2
      have Y3 := fun o => bl_cell (bl_alloc wr o) y3
      have hne : ¬ b = wr.heap.size := by have := World.block_lt_of_cell? wr _ x0; simp at this; omega
      have hne2 : ¬ w.heap.size + 1 = wr.heap.size := by omega
      go_wp2_with (go_at_call 37; refine (frac_Add_calls _ _ q x _ (hq.is.below (bl_alloc _ _)) (hx.below (bl_alloc _ _)) HLL.out).mono ?_; rintro e w2 ⟨q2, u, HQ2, hS2, rfl, hN, hb2⟩; obtain ⟨v5, v6, rfl, ⟨r5, A5, c5, rfl, h5⟩, ⟨r6, A6, c6, rfl, h6⟩⟩ := hN; have k2 := (k1'.below (bl_alloc wr _)).below hb2; obtain ⟨⟨d0, m0⟩, ⟨d1, m1⟩, ⟨d2, m2⟩, ⟨d3, m3⟩, g0, g1, g2, g3⟩ := k2.cells)
      have s2 := hb2.size
      simp at s2
      go_roundw
      case rel =>
        refine ⟨k + 1, q2, A5, c5, A6, c6, by omega, by simp, k2.at4 _ _ _ _, NQ.mono (NQ.put4 ⟨_, _, rfl, ⟨r5, A5, c5, rfl, h5⟩, ⟨r6, A6, c6, rfl, h6⟩⟩ (by simp; omega)) (by simp; omega), Four.putO ((k0'.below (bl_alloc wr _)).below hb2) (by omega) _ _ _ _, k2.put _ _ _ _, Lib.hid ?_, Nat.le_trans hS2 HSS.out, bl_put4 (bl_trans hb (bl_trans (bl_alloc _ _) hb2)) (by omega), by simp; omega⟩
        rw [HQ2.out, HQ.out, canQ_val, HX.out, List.take_add_one, List.getElem?_eq_getElem hlt, Option.toList_some, List.map_append, List.map_cons, List.map_nil, sumV_snoc, List.getD_eq_getElem?_getD, List.getElem?_eq_getElem hlt]
        rfl
      case measure => simp [intOf]; omega
    · obtain rfl : k = l.length := by omega
      obtain ⟨⟨d0, m0⟩, ⟨d1, m1⟩, ⟨d2, m2⟩, ⟨d3, m3⟩, g0, g1, g2, g3⟩ := k0'.cells
      go_wp2
      rw [List.take_length] at HQ
      exact bodyPost_ret (v := .agg #[.bool _, .slice _ _ _, .bool _, .slice _ _ _]) (by simp [results, Try.results95, go_sem, m0, m1, m2, m3]) rfl (postQ_put4 (n1 := w.heap.size + 2) hq HQ.out hSq hb (by omega) (by omega))
set_option maxHeartbeats 2000000 in
theorem settle_Rest_calls (A : Option Addr) (c : Nat) (l : List Qr) (B : Option Addr) (d : Nat) (r : List Qr) (M : Nat) (w : World) (h : IsR w (.slice A l.length c) l) (h' : IsR w (.slice B r.length d) r) (hS : ∀ q ∈ l, q.S ≤ M) (hS' : ∀ q ∈ r, q.S ≤ M) (h1 : 1 ≤ M)
    (hll : l.length ≤ 1099511627776) (hrl : r.length ≤ 1099511627776) (hlen : 8 * (2 + (l.length + 1) * M + (r.length + 1) * M) + 8 ≤ 35184372088832) :
    Calls Try.prog 40 #[.slice A l.length c, .slice B r.length d] w (PostQ w (sumV (l.map Qr.val) - sumV (r.map Qr.val)) (2 + l.length * M + r.length * M)) := by
  have el : (l.length + 1) * M = l.length * M + M := by rw [Nat.add_mul, Nat.one_mul]
  have er : (r.length + 1) * M = r.length * M + M := by rw [Nat.add_mul, Nat.one_mul]
  have HL1 : Hid (8 * (1 + (l.length + 1) * M) + 8 ≤ 35184372088832) := Lib.hid (by omega)
  have HL2 : Hid (8 * (1 + (r.length + 1) * M) + 8 ≤ 35184372088832) := Lib.hid (by omega)
  have HL3 : Hid (8 * (2 + l.length * M + r.length * M) + 8 ≤ 35184372088832) := Lib.hid (by omega)
  have HS := Lib.hid hS
  have HS' := Lib.hid hS'
  clear hlen hS hS' el er
  go_enter Try.func40, Try.ntmps40
  go_wp2_with (first
    | (go_at_call 95; (with_reducible refine (settle_total_calls A c l M _ (h.below (bl_alloc _ _)) HS.out h1 hll HL1.out).mono ?_); rintro e w1 ⟨q1, u1, HQ1, hS1, rfl, hN1, hb1⟩; have hq1 := hN1.is; obtain ⟨A1, c1, A2, c2, rfl⟩ := hq1.slices)
    | (go_at_call 95; (with_reducible refine (settle_total_calls B d r M _ (h'.below (bl_trans (bl_alloc _ _) hb1)) HS'.out h1 hrl HL2.out).mono ?_); rintro e w2 ⟨q2, u2, HQ2, hS2, rfl, hN2, hb2⟩; have hq2 := hN2.is; obtain ⟨A3, c3, A4, c4, rfl⟩ := hq2.slices)
    | (go_at_call 38; (with_reducible refine (frac_Sub_calls _ _ q1 q2 _ (hq1.below hb2) hq2 (by have := HL3.out; omega)).mono ?_); rintro e w3 ⟨q3, u3, HQ3, hS3, rfl, hN3, hb3⟩; obtain ⟨v5, v6, rfl, ⟨r5, D5, m5, rfl, h5⟩, ⟨r6, D6, m6, rfl, h6⟩⟩ := hN3; have k1 : Four w.heap.size w3 := ((Four.alloc _ _ _ _ _ rfl : Four w.heap.size (w.alloc _)).below (bl_trans hb1 (bl_trans hb2 hb3))); obtain ⟨⟨x0, y0⟩, ⟨x1, y1⟩, ⟨x2, y2⟩, ⟨x3, y3⟩, g0, g1, g2, g3⟩ := k1.cells))
  have s1 := hb1.size
  have s2 := hb2.size
  simp at s1
  exact bodyPost_ret (v := .agg #[.bool _, .slice _ _ _, .bool _, .slice _ _ _]) (by simp [results, Try.results40, go_sem, y0, y1, y2, y3]) rfl (postQ_put4 (n1 := w2.heap.size) ⟨_, _, rfl, ⟨r5, D5, m5, rfl, h5⟩, ⟨r6, D6, m6, rfl, h6⟩⟩ (by
    rw [HQ3.out, HQ1.out, HQ2.out]; simp only [canQ_val]) (by omega) (bl_trans (bl_alloc _ _) (bl_trans hb1 (bl_trans hb2 hb3))) (by omega) (by omega))
end Go.Proofs.Ytnmmgegnioihmaa
