/- Package frac: Cmp, Equal. -/
import Derived.Test.YtnmmgegnioihmaaFrac5
import Derived.Deep.CutRange
set_option linter.unusedVariables false
set_option linter.unusedSimpArgs false
namespace Go.Proofs.Ytnmmgegnioihmaa
open Go.RowKit

theorem absorb {A G : Prop} (h : A) (k : A → G) : G := k h
theorem Four.lt {k : Nat} {W : World} (h : Four k W) : k < W.heap.size := by
  obtain ⟨_, _, _, _, _, h⟩ := h; exact (Array.getElem?_eq_some_iff.1 h).1
theorem Fr.set4 {w w0 W : World} {K : Nat → Prop} {k : Nat} {a b c d : Value} (h0 : Below w.heap.size w w0) (h : Fr w w0 K W) (hk : w0.heap.size ≤ k) : Fr w w0 K ((((W.setCell ⟨k, 0, none⟩ a).setCell ⟨k, 1, none⟩ b).setCell ⟨k, 2, none⟩ c).setCell ⟨k, 3, none⟩ d) := by
  have hb : Below w0.heap.size W ((((W.setCell ⟨k, 0, none⟩ a).setCell ⟨k, 1, none⟩ b).setCell ⟨k, 2, none⟩ c).setCell ⟨k, 3, none⟩ d) :=
    ((((Below.refl _ _).setCell (p := ⟨k, 0, none⟩) hk a).setCell (p := ⟨k, 1, none⟩) hk b).setCell (p := ⟨k, 2, none⟩) hk c).setCell (p := ⟨k, 3, none⟩) hk d
  refine ⟨h.b.trans (hb.mono h0.size), Nat.le_trans h.size hb.size, fun i hi hK => (hb.block i hi).trans (h.block i hi hK), fun i cs T fr hc => ?_⟩
  obtain ⟨cs', hs, hc'⟩ := h.shape i cs T fr hc
  exact ⟨cs', hs, (hb.block i (Array.getElem?_eq_some_iff.1 hc).1).trans hc'⟩
theorem Four.facts {k : Nat} {W : World} (h : Four k W) : ∃ x0 x1 x2 x3, W.cell? ⟨k, 0, none⟩ = some x0 ∧ W.cell? ⟨k, 1, none⟩ = some x1 ∧ W.cell? ⟨k, 2, none⟩ = some x2 ∧ W.cell? ⟨k, 3, none⟩ = some x3 ∧
    (∀ j, j < 4 → W.frozen? ⟨k, j, none⟩ = false) ∧
    (∀ o, (W.alloc o).cell? ⟨k, 0, none⟩ = some x0) ∧ (∀ o, (W.alloc o).cell? ⟨k, 1, none⟩ = some x1) ∧ (∀ o, (W.alloc o).cell? ⟨k, 2, none⟩ = some x2) ∧ (∀ o, (W.alloc o).cell? ⟨k, 3, none⟩ = some x3) ∧
    W.frozen? ⟨k, 0, none⟩ = false ∧ W.frozen? ⟨k, 1, none⟩ = false ∧ W.frozen? ⟨k, 2, none⟩ = false ∧ W.frozen? ⟨k, 3, none⟩ = false ∧
    (∀ o, (W.alloc o).frozen? ⟨k, 0, none⟩ = false) ∧ (∀ o, (W.alloc o).frozen? ⟨k, 1, none⟩ = false) ∧ (∀ o, (W.alloc o).frozen? ⟨k, 2, none⟩ = false) ∧ (∀ o, (W.alloc o).frozen? ⟨k, 3, none⟩ = false) := by
  obtain ⟨⟨x0, y0⟩, ⟨x1, y1⟩, ⟨x2, y2⟩, ⟨x3, y3⟩, g0, g1, g2, g3⟩ := h.cells
  have b := fun o => bl_alloc W o
  exact ⟨x0, x1, x2, x3, y0, y1, y2, y3, fun j hj => by
      match j, hj with
      | 0, _ => exact g0
      | 1, _ => exact g1
      | 2, _ => exact g2
      | 3, _ => exact g3, fun o => bl_cell (b o) y0, fun o => bl_cell (b o) y1, fun o => bl_cell (b o) y2, fun o => bl_cell (b o) y3, g0, g1, g2, g3,
    fun o => (bl_frozen (b o) y0).trans g0, fun o => (bl_frozen (b o) y1).trans g1, fun o => (bl_frozen (b o) y2).trans g2, fun o => (bl_frozen (b o) y3).trans g3⟩
theorem Four.drew {k : Nat} {W : World} (h : Four k W) : Four k W.drew := h
/-- region 1's end: the two parts in boxes of their own -/
def CutR (a b : Qr) (w : World) (t5 t6 : Value) (W : World) : Prop := ∃ k5 k6 p q P1 p1 P2 p2 Q1 q1 Q2 q2, t5 = .pointer (some ⟨k5, 0, none⟩) ∧ t6 = .pointer (some ⟨k6, 0, none⟩) ∧ Hid (Parts a p) ∧ Hid (Parts b q) ∧
  (W.cell? ⟨k5, 0, none⟩ = some (.bool p.n.neg) ∧ W.cell? ⟨k5, 1, none⟩ = some (.slice P1 p.n.ws.length p1) ∧ W.cell? ⟨k5, 2, none⟩ = some (.bool p.d.neg) ∧ W.cell? ⟨k5, 3, none⟩ = some (.slice P2 p.d.ws.length p2)) ∧
  (W.cell? ⟨k6, 0, none⟩ = some (.bool q.n.neg) ∧ W.cell? ⟨k6, 1, none⟩ = some (.slice Q1 q.n.ws.length q1) ∧ W.cell? ⟨k6, 2, none⟩ = some (.bool q.d.neg) ∧ W.cell? ⟨k6, 3, none⟩ = some (.slice Q2 q.d.ws.length q2)) ∧
  IsQ W (.agg #[.bool p.n.neg, .slice P1 p.n.ws.length p1, .bool p.d.neg, .slice P2 p.d.ws.length p2]) p ∧ IsQ W (.agg #[.bool q.n.neg, .slice Q1 q.n.ws.length q1, .bool q.d.neg, .slice Q2 q.d.ws.length q2]) q ∧ Below w.heap.size w W
theorem ag_set {W : World} {p : Addr} {u : Value} {k : Nat} {X : Option Obj} (h : W.heap[k]? = X) (hne : k ≠ p.block) : (W.setCell p u).heap[k]? = X := (Below.heap_setCell _ _ _ _ hne).trans h
theorem ag_alloc {W : World} {o : Obj} {k : Nat} {X : Option Obj} (h : W.heap[k]? = X) (hk : k < W.heap.size) : (W.alloc o).heap[k]? = X := (heap_alloc_old W o k hk).trans h
theorem ag_drew {W : World} {k : Nat} {X : Option Obj} (h : W.heap[k]? = X) : W.drew.heap[k]? = X := h
theorem ag_bl {W W' : World} {k : Nat} {X : Option Obj} (hb : Below W.heap.size W W') (h : W.heap[k]? = X) (hk : k < W.heap.size) : W'.heap[k]? = X := (hb.block k hk).trans h
set_option maxHeartbeats 40000000 in
theorem frac_Cmp_calls (va vb : Value) (a b : Qr) (w : World) (ha : IsQ w va a) (hb : IsQ w vb b) (hlen : 8 * (a.S + b.S) + 8 ≤ 35184372088832) :
    Calls Try.prog 78 #[va, vb] w fun e w' => e = .returned (.int .i64 (a.val - b.val).num.sign) ∧ Below w.heap.size w w' := by
  have hA := ha
  have hB := hb
  have ka : a.Ok := by obtain ⟨_, _, _, h1, h2⟩ := ha; exact ⟨h1.1, h2.1⟩
  have kb : b.Ok := by obtain ⟨_, _, _, h1, h2⟩ := hb; exact ⟨h1.1, h2.1⟩
  obtain ⟨A1, c1, A2, c2, rfl⟩ := ha.slices
  obtain ⟨A3, c3, A4, c4, rfl⟩ := hb.slices
  have HLa : Hid (a.S ≤ 35184372088832) := Lib.hid (by omega)
  have HLb : Hid (b.S ≤ 35184372088832) := Lib.hid (by omega)
  have HL := Lib.hid hlen
  clear hlen ha hb
  go_enter Try.func78, Try.ntmps78
  go_wp2
  generalize hw0 : World.alloc _ _ = w0
  have hb0 : Below w.heap.size w w0 := by subst hw0; exact bl_alloc2 (bl_alloc _ _) _
  have t1 : Box4 w w0 (fun _ => False) w.heap.size (.bool a.n.neg) (.slice A1 a.n.ws.length c1) (.bool a.d.neg) (.slice A2 a.d.ws.length c2) := Box4.mk (fun h => h) (by subst hw0; refine ⟨?_, ?_, ?_, ?_⟩ <;> go_simp)
  have t2 : Box4 w w0 (fun _ => False) (w.heap.size + 1) (.bool b.n.neg) (.slice A3 b.n.ws.length c3) (.bool b.d.neg) (.slice A4 b.d.ws.length c4) := Box4.mk (fun h => h) (by subst hw0; refine ⟨?_, ?_, ?_, ?_⟩ <;> go_simp)
  have f0 : Fr w w0 (fun _ => False) w0 := Fr.start hb0
  have z0 : w0.heap.size = w.heap.size + 2 := by subst hw0; simp
  clear hw0
  have HZ0 := Lib.hid z0
  clear z0
  go_upto_region 1 with fail
  go_cut [5, 6] from 7 to 10 (fun t5 t6 wx => CutR a b w t5 t6 wx)
  case first =>
   go_region_held3 (fun W => Fr w w0 (fun _ => False) W) (with_reducible (first | assumption | (refine Fr.set4 hb0 ?_ ?_; (focus (first | assumption | (refine Fr.call f3 (bl_alloc _ _)) | (refine Fr.call f3 (bl_alloc2 (bl_alloc _ _) _)) | (refine Fr.set4 hb0 ?_ ?_; (focus (first | assumption | (refine Fr.call f3 (bl_alloc _ _)) | (refine Fr.call f3 (bl_alloc2 (bl_alloc _ _) _)))); (have := f2.size; have := f3.size; first | omega | simp | (simp; omega))))); (have := f2.size; have := f3.size; first | omega | simp | (simp; omega))) | exact Fr.drew (by assumption) | exact Fr.call (by assumption) (by assumption) | exact Fr.call (by assumption) (bl_alloc _ _) | exact Fr.call (by assumption) (bl_alloc2 (bl_alloc _ _) _))) (first
    | (go_at_call 116; (with_reducible refine (of_callsx _ a w _ hA (Fr.b (by assumption)) HLa.out).mono ?_); rintro e w2 ⟨p, x1, HP, rfl, hb2, HX⟩; obtain ⟨P1, p1, P2, p2, rfl⟩ := (HX.out w2 (fun _ _ _ => rfl)).slices; have f2 := Fr.call (by assumption) hb2; (try (refine absorb (A := Four (w0.heap.size) w2) ?_ ?_; (focus (refine Four.below ?_ hb2; ((repeat (first | (with_reducible (refine Four.alloc _ _ _ _ _ ?_); first | rfl | (simp; done)) | (with_reducible refine Four.drew ?_) | (with_reducible refine Four.below ?_ (bl_alloc _ _)))); done))); intro Fa; have := Nat.ne_of_lt (Four.lt Fa); have := Nat.ne_of_gt (Four.lt Fa))); (try (refine absorb (A := Four (w0.heap.size + 1) w2) ?_ ?_; (focus (refine Four.below ?_ hb2; ((repeat (first | (with_reducible (refine Four.alloc _ _ _ _ _ ?_); first | rfl | (simp; done)) | (with_reducible refine Four.drew ?_) | (with_reducible refine Four.below ?_ (bl_alloc _ _)))); done))); intro Fb; have := Nat.ne_of_lt (Four.lt Fb); have := Nat.ne_of_gt (Four.lt Fb))))
    | (go_at_call 116; (with_reducible refine (of_callsx _ b w _ hB (Fr.b (by assumption)) HLb.out).mono ?_); rintro e w3 ⟨q, x2, HQ, rfl, hb3, HY⟩; obtain ⟨Q1, q1, Q2, q2, rfl⟩ := (HY.out w3 (fun _ _ _ => rfl)).slices; have f3 := Fr.call (by assumption) hb3; (try (refine absorb (A := Four (w0.heap.size) w3) ?_ ?_; (focus (refine Four.below ?_ hb3; ((repeat (first | (with_reducible exact Fa) | (with_reducible (refine Four.alloc _ _ _ _ _ ?_); first | rfl | (simp; done)) | (with_reducible refine Four.drew ?_) | (with_reducible refine Four.below ?_ (bl_alloc _ _)))); done))); intro Fc)); (try (refine absorb (A := Four (w0.heap.size + 1) w3) ?_ ?_; (focus (refine Four.below ?_ hb3; ((repeat (first | (with_reducible exact Fb) | (with_reducible (refine Four.alloc _ _ _ _ _ ?_); first | rfl | (simp; done)) | (with_reducible refine Four.drew ?_) | (with_reducible refine Four.below ?_ (bl_alloc _ _)))); done))); intro Fd)); (try (refine absorb (A := Four (w2.heap.size) w3) ?_ ?_; (focus (refine Four.below ?_ hb3; ((repeat (first | (with_reducible (refine Four.alloc _ _ _ _ _ ?_); first | rfl | (simp; done)) | (with_reducible refine Four.drew ?_) | (with_reducible refine Four.below ?_ (bl_alloc _ _)))); done))); intro Fe)); (try (refine absorb (A := Four (w2.heap.size + 1) w3) ?_ ?_; (focus (refine Four.below ?_ hb3; ((repeat (first | (with_reducible (refine Four.alloc _ _ _ _ _ ?_); first | rfl | (simp; done)) | (with_reducible refine Four.drew ?_) | (with_reducible refine Four.below ?_ (bl_alloc _ _)))); done))); intro Ff)); (try (obtain ⟨_, _, _, _, _, _, _, _, _, _, _, _, _, _, _, _, _, _, _, _, _⟩ := Four.facts Fc; have := Nat.ne_of_lt (Four.lt Fc); have := Nat.ne_of_gt (Four.lt Fc))); (try (obtain ⟨_, _, _, _, _, _, _, _, _, _, _, _, _, _, _, _, _, _, _, _, _⟩ := Four.facts Fd; have := Nat.ne_of_lt (Four.lt Fd); have := Nat.ne_of_gt (Four.lt Fd))); (try (obtain ⟨_, _, _, _, _, _, _, _, _, _, _, _, _, _, _, _, _, _, _, _, _⟩ := Four.facts Fe; have := Nat.ne_of_lt (Four.lt Fe); have := Nat.ne_of_gt (Four.lt Fe))); (try (obtain ⟨_, _, _, _, _, _, _, _, _, _, _, _, _, _, _, _, _, _, _, _, _⟩ := Four.facts Ff; have := Nat.ne_of_lt (Four.lt Ff); have := Nat.ne_of_gt (Four.lt Ff)))))
   all_goals (go_wp2_with fail; go_meet)
   all_goals (have s2 := hb2.size; have s3 := hb3.size; have z0 := HZ0.out; (try simp at s2); (try simp at s3))
   all_goals (refine ⟨_, _, p, q, P1, p1, P2, p2, Q1, q1, Q2, q2, rfl, rfl, HP, HQ, ?_, ?_, HX.out _ ?_, HY.out _ ?_, Fr.b (by assumption)⟩)
   all_goals (first | (focus (show ∀ k, _; (intro k hk hor; (try simp at hor); (repeat' (first | (with_reducible rfl) | (with_reducible refine ag_set ?_ ?_) | (with_reducible refine ag_alloc ?_ ?_) | (with_reducible refine ag_drew ?_) | (with_reducible refine ag_bl hb3 ?_ ?_))); all_goals (first | omega | (simp; omega))))) | skip)
   all_goals (clear z0; refine ⟨?_, ?_, ?_, ?_⟩)
   all_goals go_simp
  case rest =>
    obtain ⟨k5, k6, p, q, P1, p1, P2, p2, Q1, q1, Q2, q2, rfl, rfl, HP, HQ, y5, y6, hp, hq, hbc⟩ := hcut
    clear hA hB t1 t2 f0 HZ0 HLa HLb
    obtain ⟨v1, v2, e, hpn0, hpd0⟩ := hp; cases e
    obtain ⟨v3, v4, e, hqn0, hqd0⟩ := hq; cases e
    have hpn : IsZ wc (.agg #[.bool p.n.neg, .slice P1 p.n.ws.length p1]) p.n := ⟨_, rfl, hpn0⟩
    have hpd : IsZ wc (.agg #[.bool p.d.neg, .slice P2 p.d.ws.length p2]) p.d := ⟨_, rfl, hpd0⟩
    have hqn : IsZ wc (.agg #[.bool q.n.neg, .slice Q1 q.n.ws.length q1]) q.n := ⟨_, rfl, hqn0⟩
    have hqd : IsZ wc (.agg #[.bool q.d.neg, .slice Q2 q.d.ws.length q2]) q.d := ⟨_, rfl, hqd0⟩
    have hl : p.n.ws.length + q.d.ws.length + (q.n.ws.length + p.d.ws.length) + 4 ≤ 35184372088832 := by
      have := HL.out; have := HP.out.ln; have := HP.out.ld; have := HQ.out.ln; have := HQ.out.ld; omega
    have hm1 := mul_len (x := p.n) (y := q.d) hpn0.1 hqd0.1
    have hm2 := mul_len (x := q.n) (y := p.d) hqn0.1 hpd0.1
    have HLM : Hid ((canZ (p.n.val * q.d.val)).ws.length + (canZ (q.n.val * p.d.val)).ws.length + 2 ≤ 35184372088832) := Lib.hid (by omega)
    have HL1 : Hid (p.n.ws.length + q.d.ws.length ≤ 35184372088832) := Lib.hid (by omega)
    have HL2 : Hid (q.n.ws.length + p.d.ws.length ≤ 35184372088832) := Lib.hid (by omega)
    clear hl hm1 hm2 hpn0 hpd0 hqn0 hqd0
    have t5 : Box4 wc wc (fun _ => False) k5 (.bool p.n.neg) (.slice P1 p.n.ws.length p1) (.bool p.d.neg) (.slice P2 p.d.ws.length p2) := Box4.mk (fun h => h) y5
    have t6 : Box4 wc wc (fun _ => False) k6 (.bool q.n.neg) (.slice Q1 q.n.ws.length q1) (.bool q.d.neg) (.slice Q2 q.d.ws.length q2) := Box4.mk (fun h => h) y6
    have f0 : Fr wc wc (fun _ => False) wc := Fr.start (Below.refl _ _)
    clear y5 y6
    go_upto_region 2 with fail
    go_region_held3 (fun W => Fr wc wc (fun _ => False) W) (first | assumption | exact Fr.drew (by assumption) | exact Fr.call (by assumption) (by assumption)) (first
      | (go_at_call 118; (with_reducible refine (whole_Mul_calls _ _ p.n q.d _ (hpn.below (Fr.b (by assumption))) (hqd.below (Fr.b (by assumption))) HL1.out).mono ?_); rintro e w4 ⟨z3, x3, HZ3, rfl, hZ3, hb4⟩; obtain ⟨v5, rfl, r5, A5, c5, rfl, h5⟩ := hZ3; have hz3 : IsZ w4 (.agg #[.bool z3.neg, .slice A5 z3.ws.length c5]) z3 := ⟨_, rfl, r5, A5, c5, rfl, h5.toRow⟩)
      | (go_at_call 118; (with_reducible refine (whole_Mul_calls _ _ q.n p.d _ (hqn.below (Fr.b (by assumption))) (hpd.below (Fr.b (by assumption))) HL2.out).mono ?_); rintro e w5 ⟨z4, x4, HZ4, rfl, hZ4, hb5⟩; obtain ⟨v6, rfl, r6, A6, c6, rfl, h6⟩ := hZ4; have hz4 : IsZ w5 (.agg #[.bool z4.neg, .slice A6 z4.ws.length c6]) z4 := ⟨_, rfl, r6, A6, c6, rfl, h6.toRow⟩)
      | (go_at_call 117; have hlc : z3.ws.length + z4.ws.length + 2 ≤ 35184372088832 := (HZ3.out ▸ HZ4.out ▸ HLM.out); (with_reducible refine (whole_Cmp_calls _ _ z3 z4 _ (hz3.below (by assumption)) hz4 hlc).mono ?_); rintro e w6 ⟨rfl, hb6⟩; have f6 := Fr.call (by assumption) hb6))
    go_wp2
    go_ret
    refine ⟨?_, bl_trans hbc f6.b⟩
    rw [HZ3.out, HZ4.out, canZ_val, canZ_val, cmp_sign HP.out HQ.out ka kb]
    rfl
theorem sign_dec (x y : Rat) : decide ((x - y).num.sign = 0) = decide (x = y) := by simp only [sign_eq_zero]
set_option maxHeartbeats 1000000 in
theorem frac_Equal_calls (va vb : Value) (a b : Qr) (w : World) (ha : IsQ w va a) (hb : IsQ w vb b) (hlen : 8 * (a.S + b.S) + 8 ≤ 35184372088832) :
    Calls Try.prog 33 #[va, vb] w fun e w' => e = .returned (.bool (decide (a.val = b.val))) ∧ Below w.heap.size w w' := by
  have hA := ha
  have hB := hb
  obtain ⟨A1, c1, A2, c2, rfl⟩ := ha.slices
  obtain ⟨A3, c3, A4, c4, rfl⟩ := hb.slices
  have HL := Lib.hid hlen
  clear hlen ha hb
  have HE := Lib.hid (sign_dec a.val b.val)
  go_enter Try.func33, Try.ntmps33
  go_wp2_with (go_at_call 78; generalize hw0 : World.alloc _ _ = w0
               have hb0 : Below w.heap.size w w0 := by subst hw0; exact bl_alloc2 (bl_alloc _ _) _
               clear hw0
               refine (frac_Cmp_calls _ _ a b _ (hA.below hb0) (hB.below hb0) HL.out).mono ?_; rintro e w1 ⟨rfl, hb1⟩
               generalize (a.val - b.val).num.sign = sg at *)
  exact bodyPost_ret (v := .bool (sg == 0)) (by simp [results, Try.results33, go_sem]) rfl ⟨ret_bool HE.out, bl_trans hb0 hb1⟩
end Go.Proofs.Ytnmmgegnioihmaa
