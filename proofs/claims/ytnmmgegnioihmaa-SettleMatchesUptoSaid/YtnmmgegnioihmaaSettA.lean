/- Package settle: Owed, total, Rest. -/
import Derived.Test.YtnmmgegnioihmaaVecQ
import Derived.WideMake
import Derived.Laws.MakeOwn
set_option linter.unusedVariables false
set_option linter.unusedSimpArgs false
namespace Go.Proofs.Ytnmmgegnioihmaa
open Go.RowKit

/-- the amount owed in both markets -/
def owedR (a p r n : Rat) : Rat := a * p + n * (r - a)
set_option maxHeartbeats 2000000 in
theorem settle_Owed_calls (va vp vr vn : Value) (a p r n : Qr) (w : World) (ha : IsQ w va a) (hp : IsQ w vp p) (hr : IsQ w vr r) (hn : IsQ w vn n) (hlen : 8 * (2 * a.S + p.S + r.S + n.S) + 8 ≤ 35184372088832) :
    Calls Try.prog 39 #[va, vp, vr, vn] w (PostQ w (owedR a.val p.val r.val n.val) (2 * a.S + p.S + r.S + n.S)) := by
  have hA := ha
  have hP := hp
  have hR := hr
  have hN := hn
  obtain ⟨A1, c1, A2, c2, rfl⟩ := ha.slices
  obtain ⟨A3, c3, A4, c4, rfl⟩ := hp.slices
  obtain ⟨A5, c5, A6, c6, rfl⟩ := hr.slices
  obtain ⟨A7, c7, A8, c8, rfl⟩ := hn.slices
  have HL := Lib.hid hlen
  clear hlen ha hp hr hn
  go_enter Try.func39, Try.ntmps39
  go_wp2
  generalize hw0 : World.alloc _ _ = w0
  have hb0 : Below w.heap.size w w0 := by subst hw0; exact bl_alloc2 (bl_alloc2 (bl_alloc2 (bl_alloc2 (bl_alloc _ _) _) _) _) _
  have t1 : Box4 w w0 (· = w.heap.size + 4) w.heap.size (.bool a.n.neg) (.slice A1 a.n.ws.length c1) (.bool a.d.neg) (.slice A2 a.d.ws.length c2) := Box4.mk (by omega) (by subst hw0; refine ⟨?_, ?_, ?_, ?_⟩ <;> go_simp)
  have t2 : Box4 w w0 (· = w.heap.size + 4) (w.heap.size + 1) (.bool p.n.neg) (.slice A3 p.n.ws.length c3) (.bool p.d.neg) (.slice A4 p.d.ws.length c4) := Box4.mk (by omega) (by subst hw0; refine ⟨?_, ?_, ?_, ?_⟩ <;> go_simp)
  have t3 : Box4 w w0 (· = w.heap.size + 4) (w.heap.size + 2) (.bool r.n.neg) (.slice A5 r.n.ws.length c5) (.bool r.d.neg) (.slice A6 r.d.ws.length c6) := Box4.mk (by omega) (by subst hw0; refine ⟨?_, ?_, ?_, ?_⟩ <;> go_simp)
  have t4 : Box4 w w0 (· = w.heap.size + 4) (w.heap.size + 3) (.bool n.n.neg) (.slice A7 n.n.ws.length c7) (.bool n.d.neg) (.slice A8 n.d.ws.length c8) := Box4.mk (by omega) (by subst hw0; refine ⟨?_, ?_, ?_, ?_⟩ <;> go_simp)
  have k0 : Four (w.heap.size + 4) w0 := by subst hw0; exact Four.alloc _ _ _ _ _ (by simp)
  have f0 : Fr w w0 (· = w.heap.size + 4) w0 := Fr.start hb0
  have z0 : w0.heap.size = w.heap.size + 5 := by subst hw0; simp
  clear hw0
  go_region_held3 (fun W => Fr w w0 (· = w.heap.size + 4) W) (first | assumption | exact Fr.drew (by assumption) | exact Fr.call (by assumption) (by assumption) | exact Fr.put4 f2 (by rfl) (by omega) _ _ _ _) (first
    | (go_at_call 35; (with_reducible refine (frac_Mul_calls _ _ a p _ (hA.below (Fr.b (by assumption))) (hP.below (Fr.b (by assumption))) (by have := HL.out; omega)).mono ?_); rintro e w1 ⟨q1, x1, HQ1, hS1, rfl, hN1, hb1⟩; have f1 := Fr.call (by assumption) hb1; obtain ⟨B1, d1, B2, d2, rfl⟩ := hN1.is.slices; have hq1 := hN1.is)
    | (go_at_call 37; (with_reducible refine (frac_Sub_calls _ _ r a _ (hR.below (Fr.b (by assumption))) (hA.below (Fr.b (by assumption))) (by have := HL.out; omega)).mono ?_); rintro e w2 ⟨q2, x2, HQ2, hS2, rfl, hN2, hb2⟩; obtain ⟨B3, d3, B4, d4, rfl⟩ := hN2.is.slices; have hq2 := hN2.is)
    | (go_at_call 35; (with_reducible refine (frac_Mul_calls _ _ n q2 _ (hN.below (Fr.b (by assumption))) hq2 (by have := HL.out; omega)).mono ?_); rintro e w3 ⟨q3, x3, HQ3, hS3, rfl, hN3, hb3⟩; obtain ⟨B5, d5, B6, d6, rfl⟩ := hN3.is.slices; have hq3 := hN3.is)
    | (go_at_call 38; (with_reducible refine (frac_Add_calls _ _ q1 q3 _ (hq1.below (bl_trans hb2 hb3)) hq3 (by have := HL.out; omega)).mono ?_); rintro e w4 ⟨q4, x4, HQ4, hS4, rfl, hN4, hb4⟩; have f2 := Fr.call (by assumption) hb4; have z4 := Fr.size (Fr.call (Fr.call f1 hb2) hb3); obtain ⟨v5, v6, rfl, ⟨r5, D5, m5, rfl, h5⟩, ⟨r6, D6, m6, rfl, h6⟩⟩ := hN4; obtain ⟨⟨x0, y0⟩, ⟨x1, y1⟩, ⟨x2, y2⟩, ⟨x3, y3⟩, g0, g1, g2, g3⟩ := (Fr.four f2 k0).cells))
  go_wp2
  exact bodyPost_ret (v := .agg #[.bool _, .slice _ _ _, .bool _, .slice _ _ _]) (by simp [results, Try.results39, go_sem, y0, y1, y2, y3]) rfl (postQ_put4 (n1 := w3.heap.size) ⟨_, _, rfl, ⟨r5, D5, m5, rfl, h5⟩, ⟨r6, D6, m6, rfl, h6⟩⟩ (by
    rw [HQ4.out, HQ1.out, HQ3.out, HQ2.out]; simp only [canQ_val]; rfl) (by omega) f2.b (by omega) (by omega))
def sumV (xs : List Rat) : Rat := xs.foldl (· + ·) 0
theorem sumV_snoc (xs : List Rat) (x : Rat) : sumV (xs ++ [x]) = sumV xs + x := by simp [sumV]
theorem canQ_zero : canQ 0 = zeroQ := by
  have := canQ_int 0
  rw [Rat.intCast_zero] at this
  rw [this]; unfold canZ zeroQ; simp [wordsOf]
theorem zeroN (n0 : Nat) (w : World) : NQ n0 w (.agg #[.bool zeroQ.n.neg, .slice none zeroQ.n.ws.length 0, .bool zeroQ.d.neg, .slice none zeroQ.d.ws.length 0]) zeroQ :=
  ⟨_, _, rfl, ⟨Rng.nil, none, 0, rfl, NRow.nil _ _ _⟩, ⟨Rng.nil, none, 0, rfl, NRow.nil _ _ _⟩⟩
theorem Four.setO {k : Nat} {W : World} (h : Four k W) {p : Addr} (hne : k ≠ p.block) (u : Value) : Four k (W.setCell p u) := by
  obtain ⟨x0, x1, x2, x3, T, h⟩ := h
  exact ⟨x0, x1, x2, x3, T, (Below.heap_setCell _ _ _ _ hne).trans h⟩
theorem Four.putO {k j : Nat} {W : World} (h : Four k W) (hne : k ≠ j) (a b c d : Value) : Four k ((((W.setCell ⟨j, 0, none⟩ a).setCell ⟨j, 1, none⟩ b).setCell ⟨j, 2, none⟩ c).setCell ⟨j, 3, none⟩ d) :=
  (((h.setO (p := ⟨j, 0, none⟩) hne a).setO (p := ⟨j, 1, none⟩) hne b).setO (p := ⟨j, 2, none⟩) hne c).setO (p := ⟨j, 3, none⟩) hne d
theorem Four.put {k : Nat} {W : World} (h : Four k W) (a b c d : Value) : Four k ((((W.setCell ⟨k, 0, none⟩ a).setCell ⟨k, 1, none⟩ b).setCell ⟨k, 2, none⟩ c).setCell ⟨k, 3, none⟩ d) := by
  obtain ⟨x0, x1, x2, x3, T, h⟩ := h
  have h0 := heap_setCell_at W ⟨k, 0, none⟩ a _ T (0, 0) h
  have h1 := heap_setCell_at _ ⟨k, 1, none⟩ b _ T (0, 0) h0
  have h2 := heap_setCell_at _ ⟨k, 2, none⟩ c _ T (0, 0) h1
  have h3 := heap_setCell_at _ ⟨k, 3, none⟩ d _ T (0, 0) h2
  exact ⟨a, b, c, d, T, by simpa using h3⟩
theorem Four.at4 {k : Nat} {W : World} (h : Four k W) (a b c d : Value) : let W' := (((W.setCell ⟨k, 0, none⟩ a).setCell ⟨k, 1, none⟩ b).setCell ⟨k, 2, none⟩ c).setCell ⟨k, 3, none⟩ d
    W'.cell? ⟨k, 0, none⟩ = some a ∧ W'.cell? ⟨k, 1, none⟩ = some b ∧ W'.cell? ⟨k, 2, none⟩ = some c ∧ W'.cell? ⟨k, 3, none⟩ = some d := by
  obtain ⟨x0, x1, x2, x3, T, h⟩ := h
  have h0 := heap_setCell_at W ⟨k, 0, none⟩ a _ T (0, 0) h
  have h1 := heap_setCell_at _ ⟨k, 1, none⟩ b _ T (0, 0) h0
  have h2 := heap_setCell_at _ ⟨k, 2, none⟩ c _ T (0, 0) h1
  have h3 := heap_setCell_at _ ⟨k, 3, none⟩ d _ T (0, 0) h2
  intro W'
  refine ⟨?_, ?_, ?_, ?_⟩ <;> (rw [cell_of_row _ _ _ _ _ _ h3]; simp)
set_option maxHeartbeats 2000000 in
theorem settle_total_calls (A : Option Addr) (c : Nat) (l : List Qr) (M : Nat) (w : World) (h : IsR w (.slice A l.length c) l) (hS : ∀ q ∈ l, q.S ≤ M) (h1 : 1 ≤ M) (hll : l.length ≤ 1099511627776) (hlen : 8 * (1 + (l.length + 1) * M) + 8 ≤ 35184372088832) :
    Calls Try.prog 96 #[.slice A l.length c] w (PostQ w (sumV (l.map Qr.val)) (1 + l.length * M)) := by
  have hR := h.row.2
  have HL := Lib.hid hlen
  have HS := Lib.hid hS
  clear hlen hS
  go_enter Try.func96, Try.ntmps96
  go_wp2
  generalize hw0 : World.alloc _ _ = w0
  have hb0 : Below w.heap.size w w0 := by subst hw0; exact bl_alloc2 (bl_alloc _ _) _
  have k0 : Four w.heap.size w0 := by subst hw0; exact (Four.alloc _ _ _ _ _ rfl).below (bl_alloc _ _)
  have k1 : Four (w.heap.size + 1) w0 := by subst hw0; exact Four.alloc _ _ _ _ _ (by simp)
  have hz : w0.cell? ⟨w.heap.size + 1, 0, none⟩ = some (.bool false) ∧ w0.cell? ⟨w.heap.size + 1, 1, none⟩ = some (.slice none 0 0) ∧ w0.cell? ⟨w.heap.size + 1, 2, none⟩ = some (.bool false) ∧ w0.cell? ⟨w.heap.size + 1, 3, none⟩ = some (.slice none 0 0) := by
    subst hw0; refine ⟨?_, ?_, ?_, ?_⟩ <;> go_simp
  have z0 : w.heap.size + 2 ≤ w0.heap.size := by subst hw0; simp
  clear hw0
  go_loopw [9] (fun i wr => ∃ (k : Nat) (q : Qr) (A1 : Option Addr) (c1 : Nat) (A2 : Option Addr) (c2 : Nat), k ≤ l.length ∧ i = .int .i64 k ∧
    (wr.cell? ⟨w.heap.size + 1, 0, none⟩ = some (.bool q.n.neg) ∧ wr.cell? ⟨w.heap.size + 1, 1, none⟩ = some (.slice A1 q.n.ws.length c1) ∧ wr.cell? ⟨w.heap.size + 1, 2, none⟩ = some (.bool q.d.neg) ∧ wr.cell? ⟨w.heap.size + 1, 3, none⟩ = some (.slice A2 q.d.ws.length c2)) ∧
    NQ (w.heap.size + 2) wr (.agg #[.bool q.n.neg, .slice A1 q.n.ws.length c1, .bool q.d.neg, .slice A2 q.d.ws.length c2]) q ∧ Four w.heap.size wr ∧ Four (w.heap.size + 1) wr ∧ Hid (q = canQ (sumV ((l.take k).map Qr.val))) ∧ q.S ≤ 1 + k * M ∧ Below w.heap.size w wr ∧ w.heap.size + 2 ≤ wr.heap.size) (fun i _ => l.length - (intOf i).toNat)
  case atStart => exact ⟨0, zeroQ, none, 0, none, 0, Nat.zero_le _, rfl, hz, zeroN _ _, k0, k1, Lib.hid canQ_zero.symm, by simp [zeroQ_S], hb0, z0⟩
  case round =>
    obtain ⟨k, q, A1, c1, A2, c2, hk, rfl, ⟨y0, y1, y2, y3⟩, hq, k0', k1', HQ, hSq, hb, hz'⟩ := hrel
    clear hz k0 k1 z0 hb0
    by_cases hlt : k < l.length
    · obtain ⟨b, off, A3, c3, A4, c4, rfl, x0, x1, x2, x3, hx⟩ := (hR.below hb).at hlt
      have hSx := getD_S HS.out h1 k
      obtain ⟨x, hxe⟩ : ∃ x, x = l.getD k zeroQ := ⟨_, rfl⟩
      have HX := Lib.hid hxe
      rw [← hxe] at hSx x0 x1 x2 x3 hx
      clear hxe
      have hmul : (k + 1) * M ≤ (l.length + 1) * M := Nat.mul_le_mul_right _ (by omega)
      have e1 : (k + 1) * M = k * M + M := by rw [Nat.add_mul, Nat.one_mul]
      have HLL : Hid (8 * (q.S + x.S) + 8 ≤ 35184372088832) := Lib.hid (by have := HL.out; omega)
      have HSS : Hid (q.S + x.S ≤ 1 + (k + 1) * M) := Lib.hid (by omega)
      clear hmul e1 hSx hSq
      have X0 := fun o => bl_cell (bl_alloc wr o) x0
      have X1 := fun o => bl_cell (bl_alloc wr o) x1
      have X2 := fun o => bl_cell (bl_alloc wr o) x2
      have X3 := fun o => bl_cell (bl_alloc wr o) x3
      have Y0 := fun o => bl_cell (bl_alloc wr o) y0
      have Y1 := fun o => bl_cell (bl_alloc wr o) y1
      have Y2 := fun o => bl_cell (bl_alloc wr o) y2
      have Y3 := fun o => bl_cell (bl_alloc wr o) y3
      have hne : ¬ b = wr.heap.size := by have := World.block_lt_of_cell? wr _ x0; simp at this; omega
      have hne2 : ¬ w.heap.size + 1 = wr.heap.size := by omega
      go_wp2_with (go_at_call 38; refine (frac_Add_calls _ _ q x _ (hq.is.below (bl_alloc _ _)) (hx.below (bl_alloc _ _)) HLL.out).mono ?_; rintro e w2 ⟨q2, u, HQ2, hS2, rfl, hN, hb2⟩; obtain ⟨v5, v6, rfl, ⟨r5, A5, c5, rfl, h5⟩, ⟨r6, A6, c6, rfl, h6⟩⟩ := hN; have k2 := (k1'.below (bl_alloc wr _)).below hb2; obtain ⟨⟨d0, m0⟩, ⟨d1, m1⟩, ⟨d2, m2⟩, ⟨d3, m3⟩, g0, g1, g2, g3⟩ := k2.cells)
      have s2 := hb2.size
      simp at s2
      go_roundw
      case rel =>
        refine ⟨k + 1, q2, A5, c5, A6, c6, by omega, by simp, k2.at4 _ _ _ _, NQ.mono (NQ.put4 ⟨_, _, rfl, ⟨r5, A5, c5, rfl, h5⟩, ⟨r6, A6, c6, rfl, h6⟩⟩ (by simp; omega)) (by simp; omega), Four.putO ((k0'.below (bl_alloc wr _)).below hb2) (by omega) _ _ _ _, k2.put _ _ _ _, Lib.hid ?_, Nat.le_trans hS2 HSS.out, bl_put4 (bl_trans hb (bl_trans (bl_alloc _ _) hb2)) (by omega), by simp; omega⟩
        rw [HQ2.out, HQ.out, canQ_val, HX.out, List.take_add_one, List.getElem?_eq_getElem hlt, Option.toList_some, List.map_append, List.map_cons, List.map_nil, sumV_snoc, List.getD_eq_getElem?_getD, List.getElem?_eq_getElem hlt]
        rfl
      case measure => simp [intOf]; omega
    · obtain rfl : k = l.length := by omega
      obtain ⟨⟨d0, m0⟩, ⟨d1, m1⟩, ⟨d2, m2⟩, ⟨d3, m3⟩, g0, g1, g2, g3⟩ := k0'.cells
      go_wp2
      rw [List.take_length] at HQ
      exact bodyPost_ret (v := .agg #[.bool _, .slice _ _ _, .bool _, .slice _ _ _]) (by simp [results, Try.results96, go_sem, m0, m1, m2, m3]) rfl (postQ_put4 (n1 := w.heap.size + 2) hq HQ.out hSq hb (by omega) (by omega))
set_option maxHeartbeats 2000000 in
theorem settle_Rest_calls (A : Option Addr) (c : Nat) (l : List Qr) (B : Option Addr) (d : Nat) (r : List Qr) (M : Nat) (w : World) (h : IsR w (.slice A l.length c) l) (h' : IsR w (.slice B r.length d) r) (hS : ∀ q ∈ l, q.S ≤ M) (hS' : ∀ q ∈ r, q.S ≤ M) (h1 : 1 ≤ M)
    (hll : l.length ≤ 1099511627776) (hrl : r.length ≤ 1099511627776) (hlen : 8 * (2 + (l.length + 1) * M + (r.length + 1) * M) + 8 ≤ 35184372088832) :
    Calls Try.prog 41 #[.slice A l.length c, .slice B r.length d] w (PostQ w (sumV (l.map Qr.val) - sumV (r.map Qr.val)) (2 + l.length * M + r.length * M)) := by
  have el : (l.length + 1) * M = l.length * M + M := by rw [Nat.add_mul, Nat.one_mul]
  have er : (r.length + 1) * M = r.length * M + M := by rw [Nat.add_mul, Nat.one_mul]
  have HL1 : Hid (8 * (1 + (l.length + 1) * M) + 8 ≤ 35184372088832) := Lib.hid (by omega)
  have HL2 : Hid (8 * (1 + (r.length + 1) * M) + 8 ≤ 35184372088832) := Lib.hid (by omega)
  have HL3 : Hid (8 * (2 + l.length * M + r.length * M) + 8 ≤ 35184372088832) := Lib.hid (by omega)
  have HS := Lib.hid hS
  have HS' := Lib.hid hS'
  clear hlen hS hS' el er
  go_enter Try.func41, Try.ntmps41
  go_wp2_with (first
    | (go_at_call 96; (with_reducible refine (settle_total_calls A c l M _ (h.below (bl_alloc _ _)) HS.out h1 hll HL1.out).mono ?_); rintro e w1 ⟨q1, u1, HQ1, hS1, rfl, hN1, hb1⟩; have hq1 := hN1.is; obtain ⟨A1, c1, A2, c2, rfl⟩ := hq1.slices)
    | (go_at_call 96; (with_reducible refine (settle_total_calls B d r M _ (h'.below (bl_trans (bl_alloc _ _) hb1)) HS'.out h1 hrl HL2.out).mono ?_); rintro e w2 ⟨q2, u2, HQ2, hS2, rfl, hN2, hb2⟩; have hq2 := hN2.is; obtain ⟨A3, c3, A4, c4, rfl⟩ := hq2.slices)
    | (go_at_call 37; (with_reducible refine (frac_Sub_calls _ _ q1 q2 _ (hq1.below hb2) hq2 (by have := HL3.out; omega)).mono ?_); rintro e w3 ⟨q3, u3, HQ3, hS3, rfl, hN3, hb3⟩; obtain ⟨v5, v6, rfl, ⟨r5, D5, m5, rfl, h5⟩, ⟨r6, D6, m6, rfl, h6⟩⟩ := hN3; have k1 : Four w.heap.size w3 := ((Four.alloc _ _ _ _ _ rfl : Four w.heap.size (w.alloc _)).below (bl_trans hb1 (bl_trans hb2 hb3))); obtain ⟨⟨x0, y0⟩, ⟨x1, y1⟩, ⟨x2, y2⟩, ⟨x3, y3⟩, g0, g1, g2, g3⟩ := k1.cells))
  have s1 := hb1.size
  have s2 := hb2.size
  simp at s1
  exact bodyPost_ret (v := .agg #[.bool _, .slice _ _ _, .bool _, .slice _ _ _]) (by simp [results, Try.results41, go_sem, y0, y1, y2, y3]) rfl (postQ_put4 (n1 := w2.heap.size) ⟨_, _, rfl, ⟨r5, D5, m5, rfl, h5⟩, ⟨r6, D6, m6, rfl, h6⟩⟩ (by
    rw [HQ3.out, HQ1.out, HQ2.out]; simp only [canQ_val]) (by omega) (bl_trans (bl_alloc _ _) (bl_trans hb1 (bl_trans hb2 hb3))) (by omega) (by omega))
end Go.Proofs.Ytnmmgegnioihmaa
namespace Go.Proofs.Ytnmmgegnioihmaa
open Go.RowKit

theorem run_make_Q (n : Nat) (hn : n ≤ 65536) : ∀ w : World, (Instr.makeSlice 23 (.int .i64 (n : Int)) (.int .i64 (n : Int))).run Try.prog w = .ok (.slice (some ⟨w.heap.size, 0, none⟩) n n) (w.alloc (.cells (madeCells #[.bool false, .slice none 0 0, .bool false, .slice none 0 0] (n * 4)) 43)) := fun w => by
  obtain ⟨i, hi, hz, hsz, hby⟩ := info_Q_parts
  have hr := run_make (P := Try.prog) w 23 43 i _ und_Qs hi hz .i64 .i64 n n (by omega) (by omega) (by rw [hby]; omega) (by omega)
  simp only [Int.toNat_natCast, hsz] at hr
  exact hr
set_option maxHeartbeats 1000000 in
theorem side_Gen_calls (A B C : Option Addr) (a a' b b' c c' : Nat) (w : World) : Calls Try.prog 92 #[.agg #[.slice A a a', .slice B b b', .slice C c c']] w fun e w' => e = .returned (.slice B b b') ∧ Below w.heap.size w w' := by
  go_enter Try.func92, Try.ntmps92
  go_wp2
  go_ret
  exact ⟨rfl, bl_alloc _ _⟩
set_option maxHeartbeats 1000000 in
theorem side_Take_calls (A B C : Option Addr) (a a' b b' c c' : Nat) (w : World) : Calls Try.prog 94 #[.agg #[.slice A a a', .slice B b b', .slice C c c']] w fun e w' => e = .returned (.slice C c c') ∧ Below w.heap.size w w' := by
  go_enter Try.func94, Try.ntmps94
  go_wp2
  go_ret
  exact ⟨rfl, bl_alloc _ _⟩
/-- every bus is known -/
def OkAt (xs : List Int) (n m : Nat) : Prop := ∀ x ∈ xs, 0 ≤ x ∧ x < n ∧ x < m
/-- what participant k owes or is owed -/
def amt (xs : List Int) (P P' G G' : List Qr) (k : Nat) : Rat := owedR (G.getD k zeroQ).val (P.getD (xs.getD k 0).toNat zeroQ).val (G'.getD k zeroQ).val (P'.getD (xs.getD k 0).toNat zeroQ).val
def amts (xs : List Int) (P P' G G' : List Qr) (n : Nat) : List Rat := (List.range n).map (amt xs P P' G G')
def PostAll (w : World) (xs : List Int) (P P' G G' : List Qr) (M : Nat) (e : Ending) (w' : World) : Prop := ∃ v c, e = .returned (.tuple #[v, .int .i64 c]) ∧ Below w.heap.size w w' ∧
  ((OkAt xs P.length P'.length ∧ c = 0 ∧ ∃ l, Hid (l = (amts xs P P' G G' xs.length).map canQ) ∧ (∀ q ∈ l, q.S ≤ M) ∧ OwnQ w.heap.size w' v l) ∨ (¬ OkAt xs P.length P'.length ∧ c = 1 ∧ v = .slice none 0 0))
abbrev BoxE (w w0 : World) (K : Nat → Prop) (k o : Nat) (a b c d : Value) : Prop := ∀ W, Fr w w0 K W → W.cell? ⟨k, o, none⟩ = some a ∧ W.cell? ⟨k, o + 1, none⟩ = some b ∧ W.cell? ⟨k, o + 2, none⟩ = some c ∧ W.cell? ⟨k, o + 3, none⟩ = some d
/-- a struct of three cells that is read -/
abbrev Box3 (w w0 : World) (k : Nat) (a b c : Value) : Prop := ∀ W, Fr w w0 (fun _ => False) W → W.cell? ⟨k, 0, none⟩ = some a ∧ W.cell? ⟨k, 1, none⟩ = some b ∧ W.cell? ⟨k, 2, none⟩ = some c
theorem Box3.mk {w w0 : World} {k : Nat} {a b c : Value} (h : w0.cell? ⟨k, 0, none⟩ = some a ∧ w0.cell? ⟨k, 1, none⟩ = some b ∧ w0.cell? ⟨k, 2, none⟩ = some c) : Box3 w w0 k a b c :=
  fun W hW => ⟨Fr.cell h.1 (fun h => h) W hW, Fr.cell h.2.1 (fun h => h) W hW, Fr.cell h.2.2 (fun h => h) W hW⟩
theorem Fr.putE {w w0 : World} {K : Nat → Prop} {W : World} (h : Fr w w0 K W) {k : Nat} (hK : K k) (hp : w.heap.size ≤ k) (o : Nat) (a b c d : Value) : Fr w w0 K ((((W.setCell ⟨k, o, none⟩ a).setCell ⟨k, o + 1, none⟩ b).setCell ⟨k, o + 2, none⟩ c).setCell ⟨k, o + 3, none⟩ d) :=
  (((h.setCell (p := ⟨k, o, none⟩) hK hp a).setCell (p := ⟨k, o + 1, none⟩) hK hp b).setCell (p := ⟨k, o + 2, none⟩) hK hp c).setCell (p := ⟨k, o + 3, none⟩) hK hp d
theorem pad_val {l : List Qr} {n k : Nat} (hk : k < n) : (((padR l n).map canQ).getD k zeroQ).val = (l.getD k zeroQ).val := by
  have e : ((padR l n).map canQ)[k]? = some (canQ (l.getD k zeroQ).val) := by simp [padR, hk]
  rw [List.getD_eq_getElem?_getD, e, Option.getD_some, canQ_val]
set_option maxHeartbeats 4000000 in
theorem all_Units_calls (A : Option Addr) (ac : Nat) (xs : List Int) (P1 P2 G1 G2 T1 T2 : Option Addr) (p1 p2 g1 g2 t1 t1' t2 t2' : Nat) (P P' G G' : List Qr) (M : Nat) (w : World) (hxs : Row enc64 w A ac xs) (hxl : xs.length ≤ 65536)
    (hP : QRow w P1 p1 P) (hP' : QRow w P2 p2 P') (hG : QRow w G1 g1 G) (hG' : QRow w G2 g2 G') (sP : ∀ q ∈ P, q.S ≤ M) (sP' : ∀ q ∈ P', q.S ≤ M) (sG : ∀ q ∈ G, q.S ≤ M) (sG' : ∀ q ∈ G', q.S ≤ M) (h1 : 1 ≤ M) (hM : M ≤ 274877906944) :
    Calls Try.prog 93 #[.agg #[.func (.func 92) #[] #[]], .slice A xs.length ac, .agg #[.slice P1 P.length p1, .slice G1 G.length g1, .slice T1 t1 t1'], .agg #[.slice P2 P'.length p2, .slice G2 G'.length g2, .slice T2 t2 t2']] w (PostAll w xs P P' G G' (5 * M + 3)) := by
  have hmin : (min (max (xs.length : Int) 0) 65536).toNat = xs.length := by omega
  have HS := Lib.hid (And.intro sP (And.intro sP' (And.intro sG sG')))
  clear sP sP' sG sG'
  go_enter Try.func93, Try.ntmps93
  go_wp2
  generalize hw0 : World.alloc _ _ = w0
  have hb0 : Below w.heap.size w w0 := by subst hw0; exact bl_alloc2 (bl_alloc2 (bl_alloc _ _) _) _
  have t0 : ∀ W, Fr w w0 (fun _ => False) W → W.cell? ⟨w.heap.size, 0, none⟩ = some (.func (.func 92) #[] #[]) := Fr.cell (by subst hw0; go_simp) (fun h => h)
  have b1 : Box3 w w0 (w.heap.size + 1) (.slice P1 P.length p1) (.slice G1 G.length g1) (.slice T1 t1 t1') := Box3.mk (by subst hw0; refine ⟨?_, ?_, ?_⟩ <;> go_simp)
  have b2 : Box3 w w0 (w.heap.size + 2) (.slice P2 P'.length p2) (.slice G2 G'.length g2) (.slice T2 t2 t2') := Box3.mk (by subst hw0; refine ⟨?_, ?_, ?_⟩ <;> go_simp)
  have f0 : Fr w w0 (fun _ => False) w0 := Fr.start hb0
  clear hw0
  go_region_held3 (fun W => Fr w w0 (fun _ => False) W) (first | assumption | exact Fr.drew (by assumption) | exact Fr.call (by assumption) (by assumption)) (first
    | (go_at_call 92; (with_reducible refine (side_Gen_calls P1 G1 T1 _ _ _ _ _ _ _).mono ?_); rintro e w1 ⟨rfl, hb1⟩)
    | (go_at_call 56; (with_reducible refine (vec_Resize_calls G1 _ G _ M _ ((hG.isR).below (Fr.b (by assumption))) HS.out.2.2.1 h1 (by omega)).mono ?_); rintro e w2 ⟨l1, x1, HL1, hS1, rfl, hO1, hb2⟩; obtain ⟨D1, d1, rfl, _⟩ := hO1.form)
    | (go_at_call 92; (with_reducible refine (side_Gen_calls P2 G2 T2 _ _ _ _ _ _ _).mono ?_); rintro e w3 ⟨rfl, hb3⟩)
    | (go_at_call 56; (with_reducible refine (vec_Resize_calls G2 _ G' _ M _ ((hG'.isR).below (Fr.b (by assumption))) HS.out.2.2.2 h1 (by omega)).mono ?_); rintro e w4 ⟨l2, x2, HL2, hS2, rfl, hO2, hb4⟩; have f4 := Fr.call (by assumption) hb4; obtain ⟨D2, d2, rfl, _⟩ := hO2.form))
  rw [hmin] at HL1 HL2
  have hl1 : Hid (l1.length = xs.length) := Lib.hid (by rw [HL1.out]; simp [padR])
  have hl2 : Hid (l2.length = xs.length) := Lib.hid (by rw [HL2.out]; simp [padR])
  have hmk := run_make_Q xs.length hxl
  have hR1 := (hO1.isR.below (bl_trans hb3 hb4)).row.2
  have hR2 := hO2.isR.row.2
  have hP4 := hP.below f4.b
  have hP4' := hP'.below f4.b
  have hx4 := hxs.below f4.b
  have HS1 := Lib.hid hS1
  have HS2 := Lib.hid hS2
  clear hO1 hO2 hb1 hb2 hb3 t0 f0 hb0 hxs hP hP' hG hG' hS1 hS2
  go_wp2
  clear hmk
  generalize hw5 : World.alloc _ _ = w5
  have hO5 : OwnQ w4.heap.size w5 (.slice (some ⟨w4.heap.size, 0, none⟩) xs.length xs.length) (List.replicate xs.length zeroQ) := by subst hw5; exact OwnQ.made _ _ (by unfold maxLen; omega) _ rfl
  have hb5 : Below w4.heap.size w4 w5 := by subst hw5; exact bl_alloc _ _
  clear hw5
  go_loopw [34] (fun i wr => ∃ (k : Nat) (out : List Qr), k ≤ xs.length ∧ i = .int .i64 k ∧ out.length = xs.length ∧ OwnQ w4.heap.size wr (.slice (some ⟨w4.heap.size, 0, none⟩) xs.length xs.length) out ∧ Below w4.heap.size w4 wr ∧
    Hid (∀ j, j < k → 0 ≤ xs.getD j 0 ∧ xs.getD j 0 < P.length ∧ xs.getD j 0 < P'.length) ∧ Hid (∀ j, j < k → out[j]? = some (canQ (amt xs P P' G G' j))) ∧ Hid (∀ q ∈ out, q.S ≤ 5 * M + 3)) (fun i _ => xs.length - (intOf i).toNat)
  case atStart => exact ⟨0, _, Nat.zero_le _, rfl, List.length_replicate, hO5, hb5, Lib.hid (fun j hj => by omega), Lib.hid (fun j hj => by omega), Lib.hid (fun q hq => by rw [List.eq_of_mem_replicate hq, zeroQ_S]; omega)⟩
  case round =>
    obtain ⟨k, out, hk, rfl, hol, hO, hb, HOK, HOUT, HSO⟩ := hrel
    clear hO5 hb5
    by_cases hlt : k < xs.length
    · obtain ⟨bx, ox, rfl, hc⟩ := row64_at (hx4.below hb) hlt
      obtain ⟨x, hxe⟩ : ∃ x, x = xs.getD k 0 := ⟨_, rfl⟩
      have HX := Lib.hid hxe
      rw [← hxe] at hc
      clear hxe
      have fr := f4.call hb
      obtain ⟨u0, u1, u2⟩ := b1 _ fr
      obtain ⟨w0', w1', w2'⟩ := b2 _ fr
      have hbad : ¬ (0 ≤ x ∧ x < P.length ∧ x < P'.length) → ¬ OkAt xs P.length P'.length := fun hn h => hn (h x (by rw [HX.out, List.getD_eq_getElem?_getD, List.getElem?_eq_getElem hlt]; simp))
      by_cases c1 : x < 0
      · go_wp2
        exact bodyPost_ret (v := .tuple #[.slice none 0 0, .int .i64 1]) (by simp [results, Try.results93, go_sem]) rfl ⟨_, _, rfl, fr.b, .inr ⟨hbad (by omega), rfl, rfl⟩⟩
      · by_cases c2 : (P.length : Int) ≤ x
        · go_wp2
          exact bodyPost_ret (v := .tuple #[.slice none 0 0, .int .i64 1]) (by simp [results, Try.results93, go_sem]) rfl ⟨_, _, rfl, fr.b, .inr ⟨hbad (by omega), rfl, rfl⟩⟩
        · by_cases c3 : (P'.length : Int) ≤ x
          · go_wp2
            exact bodyPost_ret (v := .tuple #[.slice none 0 0, .int .i64 1]) (by simp [results, Try.results93, go_sem]) rfl ⟨_, _, rfl, fr.b, .inr ⟨hbad (by omega), rfl, rfl⟩⟩
          · clear hbad
            obtain ⟨xn, rfl⟩ : ∃ xn : Nat, x = xn := ⟨x.toNat, by omega⟩
            have hx1 : xn < P.length := by omega
            have hx2 : xn < P'.length := by omega
            have hk1 : k < l1.length := by have := hl1.out; omega
            have hk2 : k < l2.length := by have := hl2.out; omega
            obtain ⟨ba, oa, A1, a1, A2, a2, rfl, y0, y1, y2, y3, hqa⟩ := hR1.at hk1
            obtain ⟨bp, op, A3, a3, A4, a4, rfl, y4, y5, y6, y7, hqp⟩ := hP4.at hx1
            obtain ⟨br, or, A5, a5, A6, a6, rfl, y8, y9, y10, y11, hqr⟩ := hR2.at hk2
            obtain ⟨bn, on, A7, a7, A8, a8, rfl, y12, y13, y14, y15, hqn⟩ := hP4'.at hx2
            have sa := getD_S HS1.out (by omega) k
            have sp := getD_S HS.out.1 h1 xn
            have sr := getD_S HS2.out (by omega) k
            have sn := getD_S HS.out.2.1 h1 xn
            obtain ⟨qa, ea⟩ : ∃ q, q = l1.getD k zeroQ := ⟨_, rfl⟩
            obtain ⟨qp, ep⟩ : ∃ q, q = P.getD xn zeroQ := ⟨_, rfl⟩
            obtain ⟨qr, er⟩ : ∃ q, q = l2.getD k zeroQ := ⟨_, rfl⟩
            obtain ⟨qn, en⟩ : ∃ q, q = P'.getD xn zeroQ := ⟨_, rfl⟩
            have EA := Lib.hid ea
            have EP := Lib.hid ep
            have ER := Lib.hid er
            have EN := Lib.hid en
            rw [← ea] at y0 y1 y2 y3 hqa sa
            rw [← ep] at y4 y5 y6 y7 hqp sp
            rw [← er] at y8 y9 y10 y11 hqr sr
            rw [← en] at y12 y13 y14 y15 hqn sn
            clear ea ep er en
            have HSX := Lib.hid (And.intro sa (And.intro sp (And.intro sr sn)))
            have HLO : Hid (8 * (2 * qa.S + qp.S + qr.S + qn.S) + 8 ≤ 35184372088832) := Lib.hid (by omega)
            clear sa sp sr sn
            have E1 : BoxE w4 wr (· = w4.heap.size) ba (oa + k * 4) _ _ _ _ := fun W hW => ⟨bl_cell hW.b y0, bl_cell hW.b y1, bl_cell hW.b y2, bl_cell hW.b y3⟩
            have E2 : BoxE w4 wr (· = w4.heap.size) bp (op + xn * 4) _ _ _ _ := fun W hW => ⟨bl_cell hW.b y4, bl_cell hW.b y5, bl_cell hW.b y6, bl_cell hW.b y7⟩
            have E3 : BoxE w4 wr (· = w4.heap.size) br (or + k * 4) _ _ _ _ := fun W hW => ⟨bl_cell hW.b y8, bl_cell hW.b y9, bl_cell hW.b y10, bl_cell hW.b y11⟩
            have E4 : BoxE w4 wr (· = w4.heap.size) bn (on + xn * 4) _ _ _ _ := fun W hW => ⟨bl_cell hW.b y12, bl_cell hW.b y13, bl_cell hW.b y14, bl_cell hW.b y15⟩
            clear y0 y1 y2 y3 y4 y5 y6 y7 y8 y9 y10 y11 y12 y13 y14 y15
            have B1 : ∀ W, Fr w4 wr (· = w4.heap.size) W → W.cell? ⟨w.heap.size + 1, 0, none⟩ = _ := fun W hW => bl_cell hW.b (b1 _ f4).1
            have B2 : ∀ W, Fr w4 wr (· = w4.heap.size) W → W.cell? ⟨w.heap.size + 2, 0, none⟩ = _ := fun W hW => bl_cell hW.b (b2 _ f4).1
            clear b1 b2 hR1 hR2 hP4 hP4'
            go_wp2
            clear u0 u1 u2 w0' w1' w2' hc
            have f5 : Fr w4 wr (· = w4.heap.size) wr := Fr.start hb
            go_region_held3 (fun W => Fr w4 wr (· = w4.heap.size) W) (first | assumption | exact Fr.drew (by assumption) | exact Fr.call (by assumption) (by assumption) | exact Fr.putE f6 (by rfl) (Nat.le_refl _) _ _ _ _ _) (first
              | (go_at_call 39; (with_reducible refine (settle_Owed_calls _ _ _ _ qa qp qr qn _ (hqa.below (Fr.b (by assumption))) (hqp.below (Fr.b (by assumption))) (hqr.below (Fr.b (by assumption))) (hqn.below (Fr.b (by assumption))) HLO.out).mono ?_); rintro e w6 ⟨q6, x6, HQ6, hS6, rfl, hN6, hb6⟩; have f6 := Fr.call (by assumption) hb6; obtain ⟨v5, v6, rfl, ⟨r5, C5, m5, rfl, h5⟩, ⟨r6, C6, m6, rfl, h6⟩⟩ := hN6; have hb6' := bl_trans ((Below.refl wr.heap.size wr).drew) hb6; have hO6 := hO.below hb6'; obtain ⟨⟨z0, k0⟩, ⟨z1, k1⟩, ⟨z2, k2⟩, ⟨z3, k3⟩, g0, g1, g2, g3⟩ := hO6.put_facts hol.symm hlt))
            go_wp2
            have hap : Apart w4.heap.size w6 (.slice (some ⟨w4.heap.size, 0, none⟩) xs.length xs.length) (.slice C5 q6.n.ws.length m5) (.slice C6 q6.d.ws.length m6) q6 :=
              Apart.new (n0 := wr.heap.size) (l := out) (base := w4.heap.size) ⟨r5, C5, m5, rfl, h5⟩ ⟨r6, C6, m6, rfl, h6⟩ (fun k e => (hO.lt k e).2) hb.size
            go_roundw
            case rel =>
              refine ⟨k + 1, out.set k q6, by omega, by simp, by simp [hol], OwnQ.set hO6 hol.symm hlt hap, (Fr.putE f6 rfl (Nat.le_refl _) _ _ _ _ _).b, Lib.hid fun j hj => ?_, Lib.hid fun j hj => ?_, Lib.hid fun q hq => ?_⟩
              · by_cases h : j < k
                · exact HOK.out j h
                · obtain rfl : j = k := by omega
                  rw [← HX.out]; omega
              · by_cases h : j < k
                · rw [List.getElem?_set_ne (by omega)]; exact HOUT.out j h
                · obtain rfl : j = k := by omega
                  rw [List.getElem?_set_self (by omega), HQ6.out, EA.out, EP.out, ER.out, EN.out, HL1.out, HL2.out, pad_val hlt, pad_val hlt]
                  unfold amt
                  rw [← HX.out, Int.toNat_natCast]
              · rcases List.mem_or_eq_of_mem_set hq with h | rfl
                · exact HSO.out q h
                · have := HSX.out; omega
            case measure => simp [intOf]; omega
    · obtain rfl : k = xs.length := by omega
      go_wp2
      have hok : OkAt xs P.length P'.length := fun x hx => by
        obtain ⟨j, hj, rfl⟩ := List.getElem_of_mem hx
        have := HOK.out j hj
        rw [List.getD_eq_getElem?_getD, List.getElem?_eq_getElem hj] at this
        exact this
      refine bodyPost_ret (v := .tuple #[.slice (some ⟨w4.heap.size, 0, none⟩) xs.length xs.length, .int .i64 0]) (by simp [results, Try.results93, go_sem]) rfl ⟨_, _, rfl, (f4.call hb).b, .inl ⟨hok, rfl, out, Lib.hid ?_, HSO.out, hO.mono f4.b.size⟩⟩
      apply List.ext_getElem?
      intro j
      by_cases hj : j < xs.length
      · rw [HOUT.out j hj]; simp [amts, hj]
      · rw [List.getElem?_eq_none (by omega), List.getElem?_eq_none (by simp [amts]; omega)]
end Go.Proofs.Ytnmmgegnioihmaa
namespace Go.Proofs.Ytnmmgegnioihmaa
open Go.RowKit

set_option maxHeartbeats 4000000 in
theorem all_Bids_calls (A : Option Addr) (ac : Nat) (xs : List Int) (P1 P2 G1 G2 T1 T2 : Option Addr) (p1 p2 g1 g2 t1 t1' t2 t2' : Nat) (P P' G G' : List Qr) (M : Nat) (w : World) (hxs : Row enc64 w A ac xs) (hxl : xs.length ≤ 65536)
    (hP : QRow w P1 p1 P) (hP' : QRow w P2 p2 P') (hG : QRow w G1 g1 G) (hG' : QRow w G2 g2 G') (sP : ∀ q ∈ P, q.S ≤ M) (sP' : ∀ q ∈ P', q.S ≤ M) (sG : ∀ q ∈ G, q.S ≤ M) (sG' : ∀ q ∈ G', q.S ≤ M) (h1 : 1 ≤ M) (hM : M ≤ 274877906944) :
    Calls Try.prog 93 #[.agg #[.func (.func 94) #[] #[]], .slice A xs.length ac, .agg #[.slice P1 P.length p1, .slice T1 t1 t1', .slice G1 G.length g1], .agg #[.slice P2 P'.length p2, .slice T2 t2 t2', .slice G2 G'.length g2]] w (PostAll w xs P P' G G' (5 * M + 3)) := by
  have hmin : (min (max (xs.length : Int) 0) 65536).toNat = xs.length := by omega
  have HS := Lib.hid (And.intro sP (And.intro sP' (And.intro sG sG')))
  clear sP sP' sG sG'
  go_enter Try.func93, Try.ntmps93
  go_wp2
  generalize hw0 : World.alloc _ _ = w0
  have hb0 : Below w.heap.size w w0 := by subst hw0; exact bl_alloc2 (bl_alloc2 (bl_alloc _ _) _) _
  have t0 : ∀ W, Fr w w0 (fun _ => False) W → W.cell? ⟨w.heap.size, 0, none⟩ = some (.func (.func 94) #[] #[]) := Fr.cell (by subst hw0; go_simp) (fun h => h)
  have b1 : Box3 w w0 (w.heap.size + 1) (.slice P1 P.length p1) (.slice T1 t1 t1') (.slice G1 G.length g1) := Box3.mk (by subst hw0; refine ⟨?_, ?_, ?_⟩ <;> go_simp)
  have b2 : Box3 w w0 (w.heap.size + 2) (.slice P2 P'.length p2) (.slice T2 t2 t2') (.slice G2 G'.length g2) := Box3.mk (by subst hw0; refine ⟨?_, ?_, ?_⟩ <;> go_simp)
  have f0 : Fr w w0 (fun _ => False) w0 := Fr.start hb0
  clear hw0
  go_region_held3 (fun W => Fr w w0 (fun _ => False) W) (first | assumption | exact Fr.drew (by assumption) | exact Fr.call (by assumption) (by assumption)) (first
    | (go_at_call 94; (with_reducible refine (side_Take_calls P1 T1 G1 _ _ _ _ _ _ _).mono ?_); rintro e w1 ⟨rfl, hb1⟩)
    | (go_at_call 56; (with_reducible refine (vec_Resize_calls G1 _ G _ M _ ((hG.isR).below (Fr.b (by assumption))) HS.out.2.2.1 h1 (by omega)).mono ?_); rintro e w2 ⟨l1, x1, HL1, hS1, rfl, hO1, hb2⟩; obtain ⟨D1, d1, rfl, _⟩ := hO1.form)
    | (go_at_call 94; (with_reducible refine (side_Take_calls P2 T2 G2 _ _ _ _ _ _ _).mono ?_); rintro e w3 ⟨rfl, hb3⟩)
    | (go_at_call 56; (with_reducible refine (vec_Resize_calls G2 _ G' _ M _ ((hG'.isR).below (Fr.b (by assumption))) HS.out.2.2.2 h1 (by omega)).mono ?_); rintro e w4 ⟨l2, x2, HL2, hS2, rfl, hO2, hb4⟩; have f4 := Fr.call (by assumption) hb4; obtain ⟨D2, d2, rfl, _⟩ := hO2.form))
  rw [hmin] at HL1 HL2
  have hl1 : Hid (l1.length = xs.length) := Lib.hid (by rw [HL1.out]; simp [padR])
  have hl2 : Hid (l2.length = xs.length) := Lib.hid (by rw [HL2.out]; simp [padR])
  have hmk := run_make_Q xs.length hxl
  have hR1 := (hO1.isR.below (bl_trans hb3 hb4)).row.2
  have hR2 := hO2.isR.row.2
  have hP4 := hP.below f4.b
  have hP4' := hP'.below f4.b
  have hx4 := hxs.below f4.b
  have HS1 := Lib.hid hS1
  have HS2 := Lib.hid hS2
  clear hO1 hO2 hb1 hb2 hb3 t0 f0 hb0 hxs hP hP' hG hG' hS1 hS2
  go_wp2
  clear hmk
  generalize hw5 : World.alloc _ _ = w5
  have hO5 : OwnQ w4.heap.size w5 (.slice (some ⟨w4.heap.size, 0, none⟩) xs.length xs.length) (List.replicate xs.length zeroQ) := by subst hw5; exact OwnQ.made _ _ (by unfold maxLen; omega) _ rfl
  have hb5 : Below w4.heap.size w4 w5 := by subst hw5; exact bl_alloc _ _
  clear hw5
  go_loopw [34] (fun i wr => ∃ (k : Nat) (out : List Qr), k ≤ xs.length ∧ i = .int .i64 k ∧ out.length = xs.length ∧ OwnQ w4.heap.size wr (.slice (some ⟨w4.heap.size, 0, none⟩) xs.length xs.length) out ∧ Below w4.heap.size w4 wr ∧
    Hid (∀ j, j < k → 0 ≤ xs.getD j 0 ∧ xs.getD j 0 < P.length ∧ xs.getD j 0 < P'.length) ∧ Hid (∀ j, j < k → out[j]? = some (canQ (amt xs P P' G G' j))) ∧ Hid (∀ q ∈ out, q.S ≤ 5 * M + 3)) (fun i _ => xs.length - (intOf i).toNat)
  case atStart => exact ⟨0, _, Nat.zero_le _, rfl, List.length_replicate, hO5, hb5, Lib.hid (fun j hj => by omega), Lib.hid (fun j hj => by omega), Lib.hid (fun q hq => by rw [List.eq_of_mem_replicate hq, zeroQ_S]; omega)⟩
  case round =>
    obtain ⟨k, out, hk, rfl, hol, hO, hb, HOK, HOUT, HSO⟩ := hrel
    clear hO5 hb5
    by_cases hlt : k < xs.length
    · obtain ⟨bx, ox, rfl, hc⟩ := row64_at (hx4.below hb) hlt
      obtain ⟨x, hxe⟩ : ∃ x, x = xs.getD k 0 := ⟨_, rfl⟩
      have HX := Lib.hid hxe
      rw [← hxe] at hc
      clear hxe
      have fr := f4.call hb
      obtain ⟨u0, u1, u2⟩ := b1 _ fr
      obtain ⟨w0', w1', w2'⟩ := b2 _ fr
      have hbad : ¬ (0 ≤ x ∧ x < P.length ∧ x < P'.length) → ¬ OkAt xs P.length P'.length := fun hn h => hn (h x (by rw [HX.out, List.getD_eq_getElem?_getD, List.getElem?_eq_getElem hlt]; simp))
      by_cases c1 : x < 0
      · go_wp2
        exact bodyPost_ret (v := .tuple #[.slice none 0 0, .int .i64 1]) (by simp [results, Try.results93, go_sem]) rfl ⟨_, _, rfl, fr.b, .inr ⟨hbad (by omega), rfl, rfl⟩⟩
      · by_cases c2 : (P.length : Int) ≤ x
        · go_wp2
          exact bodyPost_ret (v := .tuple #[.slice none 0 0, .int .i64 1]) (by simp [results, Try.results93, go_sem]) rfl ⟨_, _, rfl, fr.b, .inr ⟨hbad (by omega), rfl, rfl⟩⟩
        · by_cases c3 : (P'.length : Int) ≤ x
          · go_wp2
            exact bodyPost_ret (v := .tuple #[.slice none 0 0, .int .i64 1]) (by simp [results, Try.results93, go_sem]) rfl ⟨_, _, rfl, fr.b, .inr ⟨hbad (by omega), rfl, rfl⟩⟩
          · clear hbad
            obtain ⟨xn, rfl⟩ : ∃ xn : Nat, x = xn := ⟨x.toNat, by omega⟩
            have hx1 : xn < P.length := by omega
            have hx2 : xn < P'.length := by omega
            have hk1 : k < l1.length := by have := hl1.out; omega
            have hk2 : k < l2.length := by have := hl2.out; omega
            obtain ⟨ba, oa, A1, a1, A2, a2, rfl, y0, y1, y2, y3, hqa⟩ := hR1.at hk1
            obtain ⟨bp, op, A3, a3, A4, a4, rfl, y4, y5, y6, y7, hqp⟩ := hP4.at hx1
            obtain ⟨br, or, A5, a5, A6, a6, rfl, y8, y9, y10, y11, hqr⟩ := hR2.at hk2
            obtain ⟨bn, on, A7, a7, A8, a8, rfl, y12, y13, y14, y15, hqn⟩ := hP4'.at hx2
            have sa := getD_S HS1.out (by omega) k
            have sp := getD_S HS.out.1 h1 xn
            have sr := getD_S HS2.out (by omega) k
            have sn := getD_S HS.out.2.1 h1 xn
            obtain ⟨qa, ea⟩ : ∃ q, q = l1.getD k zeroQ := ⟨_, rfl⟩
            obtain ⟨qp, ep⟩ : ∃ q, q = P.getD xn zeroQ := ⟨_, rfl⟩
            obtain ⟨qr, er⟩ : ∃ q, q = l2.getD k zeroQ := ⟨_, rfl⟩
            obtain ⟨qn, en⟩ : ∃ q, q = P'.getD xn zeroQ := ⟨_, rfl⟩
            have EA := Lib.hid ea
            have EP := Lib.hid ep
            have ER := Lib.hid er
            have EN := Lib.hid en
            rw [← ea] at y0 y1 y2 y3 hqa sa
            rw [← ep] at y4 y5 y6 y7 hqp sp
            rw [← er] at y8 y9 y10 y11 hqr sr
            rw [← en] at y12 y13 y14 y15 hqn sn
            clear ea ep er en
            have HSX := Lib.hid (And.intro sa (And.intro sp (And.intro sr sn)))
            have HLO : Hid (8 * (2 * qa.S + qp.S + qr.S + qn.S) + 8 ≤ 35184372088832) := Lib.hid (by omega)
            clear sa sp sr sn
            have E1 : BoxE w4 wr (· = w4.heap.size) ba (oa + k * 4) _ _ _ _ := fun W hW => ⟨bl_cell hW.b y0, bl_cell hW.b y1, bl_cell hW.b y2, bl_cell hW.b y3⟩
            have E2 : BoxE w4 wr (· = w4.heap.size) bp (op + xn * 4) _ _ _ _ := fun W hW => ⟨bl_cell hW.b y4, bl_cell hW.b y5, bl_cell hW.b y6, bl_cell hW.b y7⟩
            have E3 : BoxE w4 wr (· = w4.heap.size) br (or + k * 4) _ _ _ _ := fun W hW => ⟨bl_cell hW.b y8, bl_cell hW.b y9, bl_cell hW.b y10, bl_cell hW.b y11⟩
            have E4 : BoxE w4 wr (· = w4.heap.size) bn (on + xn * 4) _ _ _ _ := fun W hW => ⟨bl_cell hW.b y12, bl_cell hW.b y13, bl_cell hW.b y14, bl_cell hW.b y15⟩
            clear y0 y1 y2 y3 y4 y5 y6 y7 y8 y9 y10 y11 y12 y13 y14 y15
            have B1 : ∀ W, Fr w4 wr (· = w4.heap.size) W → W.cell? ⟨w.heap.size + 1, 0, none⟩ = _ := fun W hW => bl_cell hW.b (b1 _ f4).1
            have B2 : ∀ W, Fr w4 wr (· = w4.heap.size) W → W.cell? ⟨w.heap.size + 2, 0, none⟩ = _ := fun W hW => bl_cell hW.b (b2 _ f4).1
            clear b1 b2 hR1 hR2 hP4 hP4'
            go_wp2
            clear u0 u1 u2 w0' w1' w2' hc
            have f5 : Fr w4 wr (· = w4.heap.size) wr := Fr.start hb
            go_region_held3 (fun W => Fr w4 wr (· = w4.heap.size) W) (first | assumption | exact Fr.drew (by assumption) | exact Fr.call (by assumption) (by assumption) | exact Fr.putE f6 (by rfl) (Nat.le_refl _) _ _ _ _ _) (first
              | (go_at_call 39; (with_reducible refine (settle_Owed_calls _ _ _ _ qa qp qr qn _ (hqa.below (Fr.b (by assumption))) (hqp.below (Fr.b (by assumption))) (hqr.below (Fr.b (by assumption))) (hqn.below (Fr.b (by assumption))) HLO.out).mono ?_); rintro e w6 ⟨q6, x6, HQ6, hS6, rfl, hN6, hb6⟩; have f6 := Fr.call (by assumption) hb6; obtain ⟨v5, v6, rfl, ⟨r5, C5, m5, rfl, h5⟩, ⟨r6, C6, m6, rfl, h6⟩⟩ := hN6; have hb6' := bl_trans ((Below.refl wr.heap.size wr).drew) hb6; have hO6 := hO.below hb6'; obtain ⟨⟨z0, k0⟩, ⟨z1, k1⟩, ⟨z2, k2⟩, ⟨z3, k3⟩, g0, g1, g2, g3⟩ := hO6.put_facts hol.symm hlt))
            go_wp2
            have hap : Apart w4.heap.size w6 (.slice (some ⟨w4.heap.size, 0, none⟩) xs.length xs.length) (.slice C5 q6.n.ws.length m5) (.slice C6 q6.d.ws.length m6) q6 :=
              Apart.new (n0 := wr.heap.size) (l := out) (base := w4.heap.size) ⟨r5, C5, m5, rfl, h5⟩ ⟨r6, C6, m6, rfl, h6⟩ (fun k e => (hO.lt k e).2) hb.size
            go_roundw
            case rel =>
              refine ⟨k + 1, out.set k q6, by omega, by simp, by simp [hol], OwnQ.set hO6 hol.symm hlt hap, (Fr.putE f6 rfl (Nat.le_refl _) _ _ _ _ _).b, Lib.hid fun j hj => ?_, Lib.hid fun j hj => ?_, Lib.hid fun q hq => ?_⟩
              · by_cases h : j < k
                · exact HOK.out j h
                · obtain rfl : j = k := by omega
                  rw [← HX.out]; omega
              · by_cases h : j < k
                · rw [List.getElem?_set_ne (by omega)]; exact HOUT.out j h
                · obtain rfl : j = k := by omega
                  rw [List.getElem?_set_self (by omega), HQ6.out, EA.out, EP.out, ER.out, EN.out, HL1.out, HL2.out, pad_val hlt, pad_val hlt]
                  unfold amt
                  rw [← HX.out, Int.toNat_natCast]
              · rcases List.mem_or_eq_of_mem_set hq with h | rfl
                · exact HSO.out q h
                · have := HSX.out; omega
            case measure => simp [intOf]; omega
    · obtain rfl : k = xs.length := by omega
      go_wp2
      have hok : OkAt xs P.length P'.length := fun x hx => by
        obtain ⟨j, hj, rfl⟩ := List.getElem_of_mem hx
        have := HOK.out j hj
        rw [List.getD_eq_getElem?_getD, List.getElem?_eq_getElem hj] at this
        exact this
      refine bodyPost_ret (v := .tuple #[.slice (some ⟨w4.heap.size, 0, none⟩) xs.length xs.length, .int .i64 0]) (by simp [results, Try.results93, go_sem]) rfl ⟨_, _, rfl, (f4.call hb).b, .inl ⟨hok, rfl, out, Lib.hid ?_, HSO.out, hO.mono f4.b.size⟩⟩
      apply List.ext_getElem?
      intro j
      by_cases hj : j < xs.length
      · rw [HOUT.out j hj]; simp [amts, hj]
      · rw [List.getElem?_eq_none (by omega), List.getElem?_eq_none (by simp [amts]; omega)]
end Go.Proofs.Ytnmmgegnioihmaa
namespace Go.Proofs.Ytnmmgegnioihmaa
open Go.RowKit

theorem PostAll.up {w w0 w' : World} {xs : List Int} {P P' G G' : List Qr} {M : Nat} {e : Ending} (h : PostAll w0 xs P P' G G' M e w') (hb : Below w.heap.size w w0) : PostAll w xs P P' G G' M e w' := by
  obtain ⟨v, c, e, hb', h⟩ := h
  refine ⟨v, c, e, bl_trans hb hb', ?_⟩
  rcases h with ⟨h1, h2, l, h3, h4, h5⟩ | h
  · exact .inl ⟨h1, h2, l, h3, h4, h5.mono hb.size⟩
  · exact .inr h
set_option maxHeartbeats 2000000 in
theorem settle_Units_calls (A : Option Addr) (ac : Nat) (xs : List Int) (P1 P2 G1 G2 T1 T2 : Option Addr) (p1 p2 g1 g2 t1 t1' t2 t2' : Nat) (P P' G G' : List Qr) (M : Nat) (w : World) (hxs : Row enc64 w A ac xs) (hxl : xs.length ≤ 65536)
    (hP : QRow w P1 p1 P) (hP' : QRow w P2 p2 P') (hG : QRow w G1 g1 G) (hG' : QRow w G2 g2 G') (sP : ∀ q ∈ P, q.S ≤ M) (sP' : ∀ q ∈ P', q.S ≤ M) (sG : ∀ q ∈ G, q.S ≤ M) (sG' : ∀ q ∈ G', q.S ≤ M) (h1 : 1 ≤ M) (hM : M ≤ 274877906944) :
    Calls Try.prog 28 #[.slice A xs.length ac, .agg #[.slice P1 P.length p1, .slice G1 G.length g1, .slice T1 t1 t1'], .agg #[.slice P2 P'.length p2, .slice G2 G'.length g2, .slice T2 t2 t2']] w (PostAll w xs P P' G G' (5 * M + 3)) := by
  have HS := Lib.hid (And.intro sP (And.intro sP' (And.intro sG sG')))
  clear sP sP' sG sG'
  go_enter Try.func28, Try.ntmps28
  go_wp2_with (go_at_call 93; generalize hw0 : World.alloc _ _ = w0
               have hb0 : Below w.heap.size w w0 := by subst hw0; exact bl_alloc2 (bl_alloc _ _) _
               clear hw0
               refine (all_Units_calls A ac xs P1 P2 G1 G2 T1 T2 _ _ _ _ _ _ _ _ P P' G G' M w0 (hxs.below hb0) hxl (hP.below hb0) (hP'.below hb0) (hG.below hb0) (hG'.below hb0) HS.out.1 HS.out.2.1 HS.out.2.2.1 HS.out.2.2.2 h1 hM).mono ?_; rintro e w1 hp; have hp1 := hp.up hb0; obtain ⟨v, c, rfl, hq⟩ := hp1)
  exact bodyPost_ret (v := .tuple #[v, .int .i64 c]) (by simp [results, Try.results28, go_sem]) rfl ⟨v, c, rfl, hq⟩
set_option maxHeartbeats 2000000 in
theorem settle_Bids_calls (A : Option Addr) (ac : Nat) (xs : List Int) (P1 P2 G1 G2 T1 T2 : Option Addr) (p1 p2 g1 g2 t1 t1' t2 t2' : Nat) (P P' G G' : List Qr) (M : Nat) (w : World) (hxs : Row enc64 w A ac xs) (hxl : xs.length ≤ 65536)
    (hP : QRow w P1 p1 P) (hP' : QRow w P2 p2 P') (hG : QRow w G1 g1 G) (hG' : QRow w G2 g2 G') (sP : ∀ q ∈ P, q.S ≤ M) (sP' : ∀ q ∈ P', q.S ≤ M) (sG : ∀ q ∈ G, q.S ≤ M) (sG' : ∀ q ∈ G', q.S ≤ M) (h1 : 1 ≤ M) (hM : M ≤ 274877906944) :
    Calls Try.prog 29 #[.slice A xs.length ac, .agg #[.slice P1 P.length p1, .slice T1 t1 t1', .slice G1 G.length g1], .agg #[.slice P2 P'.length p2, .slice T2 t2 t2', .slice G2 G'.length g2]] w (PostAll w xs P P' G G' (5 * M + 3)) := by
  have HS := Lib.hid (And.intro sP (And.intro sP' (And.intro sG sG')))
  clear sP sP' sG sG'
  go_enter Try.func29, Try.ntmps29
  go_wp2_with (go_at_call 93; generalize hw0 : World.alloc _ _ = w0
               have hb0 : Below w.heap.size w w0 := by subst hw0; exact bl_alloc2 (bl_alloc _ _) _
               clear hw0
               refine (all_Bids_calls A ac xs P1 P2 G1 G2 T1 T2 _ _ _ _ _ _ _ _ P P' G G' M w0 (hxs.below hb0) hxl (hP.below hb0) (hP'.below hb0) (hG.below hb0) (hG'.below hb0) HS.out.1 HS.out.2.1 HS.out.2.2.1 HS.out.2.2.2 h1 hM).mono ?_; rintro e w1 hp; have hp1 := hp.up hb0; obtain ⟨v, c, rfl, hq⟩ := hp1)
  exact bodyPost_ret (v := .tuple #[v, .int .i64 c]) (by simp [results, Try.results29, go_sem]) rfl ⟨v, c, rfl, hq⟩
end Go.Proofs.Ytnmmgegnioihmaa
