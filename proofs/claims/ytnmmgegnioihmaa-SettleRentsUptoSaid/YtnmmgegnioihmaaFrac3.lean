/- Package frac: the arithmetic operations' closures. -/
import Derived.Test.YtnmmgegnioihmaaFrac2
set_option linter.unusedVariables false
set_option linter.unusedSimpArgs false
namespace Go.Proofs.Ytnmmgegnioihmaa
open Go.RowKit

def PostN (w : World) (n d : Int) (e : Ending) (w' : World) : Prop := ∃ z1 z2 v, Hid (z1 = canZ n) ∧ Hid (z2 = canZ d) ∧ e = .returned v ∧ NQ w.heap.size w' v ⟨z1, z2⟩ ∧ Below w.heap.size w w'
theorem postN_put4 {w w1 : World} {n d : Int} {v : Value} {z1 z2 : Zr} {k n1 : Nat} {a b c f : Value} (hz : NQ n1 w1 v ⟨z1, z2⟩) (e1 : z1 = canZ n) (e2 : z2 = canZ d) (hb : Below w.heap.size w w1) (h1 : w.heap.size ≤ k) (h2 : k < n1) :
    PostN w n d (.returned v) ((((w1.setCell ⟨k, 0, none⟩ a).setCell ⟨k, 1, none⟩ b).setCell ⟨k, 2, none⟩ c).setCell ⟨k, 3, none⟩ f) :=
  ⟨z1, z2, v, e1, e2, rfl, (hz.put4 h2).mono (by omega), bl_put4 hb h1⟩
theorem mul_len {x y : Zr} (hx : Rng x.ws) (hy : Rng y.ws) : (canZ (x.val * y.val)).ws.length ≤ x.ws.length + y.ws.length := by
  refine canZ_len ?_
  rw [Int.natAbs_mul, Nat.pow_add]
  have h1 := Zr.val_lt hx
  have h2 := Zr.val_lt hy
  exact Nat.mul_lt_mul'' h1 h2
set_option maxHeartbeats 2000000 in
theorem does_add_calls (va vb : Value) (p q : Qr) (w : World) (ha : IsQ w va p) (hb : IsQ w vb q) (hlen : p.n.ws.length + q.d.ws.length + (q.n.ws.length + p.d.ws.length) + (p.d.ws.length + q.d.ws.length) + 4 ≤ 35184372088832) :
    Calls Try.prog 124 #[va, vb] w (PostN w (p.n.val * q.d.val + q.n.val * p.d.val) (p.d.val * q.d.val)) := by
  obtain ⟨v1, v2, rfl, hn, hd⟩ := ha
  obtain ⟨v3, v4, rfl, hm, he⟩ := hb
  have hpn : IsZ w (.agg #[.bool p.n.neg, v1]) p.n := ⟨v1, rfl, hn⟩
  have hpd : IsZ w (.agg #[.bool p.d.neg, v2]) p.d := ⟨v2, rfl, hd⟩
  have hqn : IsZ w (.agg #[.bool q.n.neg, v3]) q.n := ⟨v3, rfl, hm⟩
  have hqd : IsZ w (.agg #[.bool q.d.neg, v4]) q.d := ⟨v4, rfl, he⟩
  have hl1 := mul_len hn.1 he.1
  have hl2 := mul_len hm.1 hd.1
  have HL1 : Hid (p.n.ws.length + q.d.ws.length ≤ 35184372088832) := Lib.hid (by omega)
  have HL2 : Hid (q.n.ws.length + p.d.ws.length ≤ 35184372088832) := Lib.hid (by omega)
  have HL3 : Hid (p.d.ws.length + q.d.ws.length ≤ 35184372088832) := Lib.hid (by omega)
  have HL4 : Hid ((canZ (p.n.val * q.d.val)).ws.length + (canZ (q.n.val * p.d.val)).ws.length + 2 ≤ 35184372088832) := Lib.hid (by omega)
  clear hlen hl1 hl2
  obtain ⟨r1, A1, c1, rfl, h1⟩ := hn
  obtain ⟨r2, A2, c2, rfl, h2⟩ := hd
  obtain ⟨r3, A3, c3, rfl, h3⟩ := hm
  obtain ⟨r4, A4, c4, rfl, h4⟩ := he
  clear h1 h2 h3 h4
  go_enter Try.func124, Try.ntmps124
  go_wp2
  generalize hw0 : World.alloc _ _ = w0
  have hb0 : Below w.heap.size w w0 := by subst hw0; exact bl_alloc2 (bl_alloc2 (bl_alloc _ _) _) _
  have t1 : Box4 w w0 (· = w.heap.size + 2) w.heap.size (.bool p.n.neg) (.slice A1 p.n.ws.length c1) (.bool p.d.neg) (.slice A2 p.d.ws.length c2) := Box4.mk (by omega) (by subst hw0; refine ⟨?_, ?_, ?_, ?_⟩ <;> go_simp)
  have t2 : Box4 w w0 (· = w.heap.size + 2) (w.heap.size + 1) (.bool q.n.neg) (.slice A3 q.n.ws.length c3) (.bool q.d.neg) (.slice A4 q.d.ws.length c4) := Box4.mk (by omega) (by subst hw0; refine ⟨?_, ?_, ?_, ?_⟩ <;> go_simp)
  have k0 : Four (w.heap.size + 2) w0 := by subst hw0; exact Four.alloc _ _ _ _ _ (by simp)
  have f0 : Fr w w0 (· = w.heap.size + 2) w0 := Fr.start hb0
  have z0 : w0.heap.size = w.heap.size + 3 := by subst hw0; simp
  clear hw0
  go_region_held3 (fun W => Fr w w0 (· = w.heap.size + 2) W) (first | assumption | exact Fr.drew (by assumption) | exact Fr.call (by assumption) (by assumption) | exact Fr.put4 f2 (by rfl) (by omega) _ _ _ _) (first
    | (go_at_call 118; (with_reducible refine (whole_Mul_calls _ _ p.n q.d _ (hpn.below (Fr.b (by assumption))) (hqd.below (Fr.b (by assumption))) HL1.out).mono ?_); rintro e w2 ⟨z1, x1, HZ1, rfl, hZ1, hb2⟩)
    | (go_at_call 118; (with_reducible refine (whole_Mul_calls _ _ q.n p.d _ (hqn.below (Fr.b (by assumption))) (hpd.below (Fr.b (by assumption))) HL2.out).mono ?_); rintro e w3 ⟨z2, x2, HZ2, rfl, hZ2, hb3⟩; replace hZ1 := hZ1.below hb3; have hl4 := HL4.out; rw [← HZ1.out, ← HZ2.out] at hl4)
    | (go_at_call 125; (with_reducible refine (whole_Add_calls _ _ z1 z2 _ hZ1.is hZ2.is hl4).mono ?_); rintro e w4 ⟨z3, x3, HZ3, rfl, hZ3, hb4⟩; obtain ⟨v5, rfl, r5, A5, c5, rfl, h5⟩ := hZ3; replace h5 := h5.mono (Nat.le_trans (Nat.le_of_eq z0.symm) (Fr.size (by assumption))))
    | (go_at_call 118; (with_reducible refine (whole_Mul_calls _ _ p.d q.d _ (hpd.below (Fr.b (by assumption))) (hqd.below (Fr.b (by assumption))) HL3.out).mono ?_); rintro e w5 ⟨z4, x4, HZ4, rfl, hZ4, hb5⟩; obtain ⟨v6, rfl, r6, A6, c6, rfl, h6⟩ := hZ4; replace h6 := h6.mono (Nat.le_trans (Nat.le_of_eq z0.symm) (Fr.size (by assumption))); have f2 := Fr.call (by assumption) hb5; obtain ⟨⟨x0, y0⟩, ⟨x1, y1⟩, ⟨x2, y2⟩, ⟨x3, y3⟩, g0, g1, g2, g3⟩ := (Fr.four f2 k0).cells))
  go_wp2
  have hQ : NQ (w.heap.size + 3) w5 (.agg #[.bool z3.neg, .slice A5 z3.ws.length c5, .bool z4.neg, .slice A6 z4.ws.length c6]) ⟨z3, z4⟩ := ⟨_, _, rfl, ⟨r5, A5, c5, rfl, h5.below hb5⟩, ⟨r6, A6, c6, rfl, h6⟩⟩
  exact bodyPost_ret (v := .agg #[.bool _, .slice _ _ _, .bool _, .slice _ _ _]) (by simp [results, Try.results124, go_sem, y0, y1, y2, y3]) rfl (postN_put4 hQ (by rw [HZ3.out, HZ1.out, HZ2.out, canZ_val, canZ_val]) HZ4.out f2.b (by omega) (by omega))
set_option maxHeartbeats 2000000 in
theorem does_sub_calls (va vb : Value) (p q : Qr) (w : World) (ha : IsQ w va p) (hb : IsQ w vb q) (hlen : p.n.ws.length + q.d.ws.length + (q.n.ws.length + p.d.ws.length) + (p.d.ws.length + q.d.ws.length) + 4 ≤ 35184372088832) :
    Calls Try.prog 126 #[va, vb] w (PostN w (p.n.val * q.d.val - q.n.val * p.d.val) (p.d.val * q.d.val)) := by
  obtain ⟨v1, v2, rfl, hn, hd⟩ := ha
  obtain ⟨v3, v4, rfl, hm, he⟩ := hb
  have hpn : IsZ w (.agg #[.bool p.n.neg, v1]) p.n := ⟨v1, rfl, hn⟩
  have hpd : IsZ w (.agg #[.bool p.d.neg, v2]) p.d := ⟨v2, rfl, hd⟩
  have hqn : IsZ w (.agg #[.bool q.n.neg, v3]) q.n := ⟨v3, rfl, hm⟩
  have hqd : IsZ w (.agg #[.bool q.d.neg, v4]) q.d := ⟨v4, rfl, he⟩
  have hl1 := mul_len hn.1 he.1
  have hl2 := mul_len hm.1 hd.1
  have HL1 : Hid (p.n.ws.length + q.d.ws.length ≤ 35184372088832) := Lib.hid (by omega)
  have HL2 : Hid (q.n.ws.length + p.d.ws.length ≤ 35184372088832) := Lib.hid (by omega)
  have HL3 : Hid (p.d.ws.length + q.d.ws.length ≤ 35184372088832) := Lib.hid (by omega)
  have HL4 : Hid ((canZ (p.n.val * q.d.val)).ws.length + (canZ (q.n.val * p.d.val)).ws.length + 2 ≤ 35184372088832) := Lib.hid (by omega)
  clear hlen hl1 hl2
  obtain ⟨r1, A1, c1, rfl, h1⟩ := hn
  obtain ⟨r2, A2, c2, rfl, h2⟩ := hd
  obtain ⟨r3, A3, c3, rfl, h3⟩ := hm
  obtain ⟨r4, A4, c4, rfl, h4⟩ := he
  clear h1 h2 h3 h4
  go_enter Try.func126, Try.ntmps126
  go_wp2
  generalize hw0 : World.alloc _ _ = w0
  have hb0 : Below w.heap.size w w0 := by subst hw0; exact bl_alloc2 (bl_alloc2 (bl_alloc _ _) _) _
  have t1 : Box4 w w0 (· = w.heap.size + 2) w.heap.size (.bool p.n.neg) (.slice A1 p.n.ws.length c1) (.bool p.d.neg) (.slice A2 p.d.ws.length c2) := Box4.mk (by omega) (by subst hw0; refine ⟨?_, ?_, ?_, ?_⟩ <;> go_simp)
  have t2 : Box4 w w0 (· = w.heap.size + 2) (w.heap.size + 1) (.bool q.n.neg) (.slice A3 q.n.ws.length c3) (.bool q.d.neg) (.slice A4 q.d.ws.length c4) := Box4.mk (by omega) (by subst hw0; refine ⟨?_, ?_, ?_, ?_⟩ <;> go_simp)
  have k0 : Four (w.heap.size + 2) w0 := by subst hw0; exact Four.alloc _ _ _ _ _ (by simp)
  have f0 : Fr w w0 (· = w.heap.size + 2) w0 := Fr.start hb0
  have z0 : w0.heap.size = w.heap.size + 3 := by subst hw0; simp
  clear hw0
  go_region_held3 (fun W => Fr w w0 (· = w.heap.size + 2) W) (first | assumption | exact Fr.drew (by assumption) | exact Fr.call (by assumption) (by assumption) | exact Fr.put4 f2 (by rfl) (by omega) _ _ _ _) (first
    | (go_at_call 118; (with_reducible refine (whole_Mul_calls _ _ p.n q.d _ (hpn.below (Fr.b (by assumption))) (hqd.below (Fr.b (by assumption))) HL1.out).mono ?_); rintro e w2 ⟨z1, x1, HZ1, rfl, hZ1, hb2⟩)
    | (go_at_call 118; (with_reducible refine (whole_Mul_calls _ _ q.n p.d _ (hqn.below (Fr.b (by assumption))) (hpd.below (Fr.b (by assumption))) HL2.out).mono ?_); rintro e w3 ⟨z2, x2, HZ2, rfl, hZ2, hb3⟩; replace hZ1 := hZ1.below hb3; have hl4 := HL4.out; rw [← HZ1.out, ← HZ2.out] at hl4)
    | (go_at_call 127; (with_reducible refine (whole_Sub_calls _ _ z1 z2 _ hZ1.is hZ2.is hl4).mono ?_); rintro e w4 ⟨z3, x3, HZ3, rfl, hZ3, hb4⟩; obtain ⟨v5, rfl, r5, A5, c5, rfl, h5⟩ := hZ3; replace h5 := h5.mono (Nat.le_trans (Nat.le_of_eq z0.symm) (Fr.size (by assumption))))
    | (go_at_call 118; (with_reducible refine (whole_Mul_calls _ _ p.d q.d _ (hpd.below (Fr.b (by assumption))) (hqd.below (Fr.b (by assumption))) HL3.out).mono ?_); rintro e w5 ⟨z4, x4, HZ4, rfl, hZ4, hb5⟩; obtain ⟨v6, rfl, r6, A6, c6, rfl, h6⟩ := hZ4; replace h6 := h6.mono (Nat.le_trans (Nat.le_of_eq z0.symm) (Fr.size (by assumption))); have f2 := Fr.call (by assumption) hb5; obtain ⟨⟨x0, y0⟩, ⟨x1, y1⟩, ⟨x2, y2⟩, ⟨x3, y3⟩, g0, g1, g2, g3⟩ := (Fr.four f2 k0).cells))
  go_wp2
  have hQ : NQ (w.heap.size + 3) w5 (.agg #[.bool z3.neg, .slice A5 z3.ws.length c5, .bool z4.neg, .slice A6 z4.ws.length c6]) ⟨z3, z4⟩ := ⟨_, _, rfl, ⟨r5, A5, c5, rfl, h5.below hb5⟩, ⟨r6, A6, c6, rfl, h6⟩⟩
  exact bodyPost_ret (v := .agg #[.bool _, .slice _ _ _, .bool _, .slice _ _ _]) (by simp [results, Try.results126, go_sem, y0, y1, y2, y3]) rfl (postN_put4 hQ (by rw [HZ3.out, HZ1.out, HZ2.out, canZ_val, canZ_val]) HZ4.out f2.b (by omega) (by omega))
set_option maxHeartbeats 2000000 in
theorem does_mul_calls (va vb : Value) (p q : Qr) (w : World) (ha : IsQ w va p) (hb : IsQ w vb q) (hlen : p.n.ws.length + q.n.ws.length + (p.d.ws.length + q.d.ws.length) + 4 ≤ 35184372088832) :
    Calls Try.prog 128 #[va, vb] w (PostN w (p.n.val * q.n.val) (p.d.val * q.d.val)) := by
  obtain ⟨v1, v2, rfl, hn, hd⟩ := ha
  obtain ⟨v3, v4, rfl, hm, he⟩ := hb
  have hpn : IsZ w (.agg #[.bool p.n.neg, v1]) p.n := ⟨v1, rfl, hn⟩
  have hpd : IsZ w (.agg #[.bool p.d.neg, v2]) p.d := ⟨v2, rfl, hd⟩
  have hqn : IsZ w (.agg #[.bool q.n.neg, v3]) q.n := ⟨v3, rfl, hm⟩
  have hqd : IsZ w (.agg #[.bool q.d.neg, v4]) q.d := ⟨v4, rfl, he⟩
  have HL1 : Hid (p.n.ws.length + q.n.ws.length ≤ 35184372088832) := Lib.hid (by omega)
  have HL3 : Hid (p.d.ws.length + q.d.ws.length ≤ 35184372088832) := Lib.hid (by omega)
  clear hlen
  obtain ⟨r1, A1, c1, rfl, h1⟩ := hn
  obtain ⟨r2, A2, c2, rfl, h2⟩ := hd
  obtain ⟨r3, A3, c3, rfl, h3⟩ := hm
  obtain ⟨r4, A4, c4, rfl, h4⟩ := he
  clear h1 h2 h3 h4
  go_enter Try.func128, Try.ntmps128
  go_wp2
  generalize hw0 : World.alloc _ _ = w0
  have hb0 : Below w.heap.size w w0 := by subst hw0; exact bl_alloc2 (bl_alloc2 (bl_alloc _ _) _) _
  have t1 : Box4 w w0 (· = w.heap.size + 2) w.heap.size (.bool p.n.neg) (.slice A1 p.n.ws.length c1) (.bool p.d.neg) (.slice A2 p.d.ws.length c2) := Box4.mk (by omega) (by subst hw0; refine ⟨?_, ?_, ?_, ?_⟩ <;> go_simp)
  have t2 : Box4 w w0 (· = w.heap.size + 2) (w.heap.size + 1) (.bool q.n.neg) (.slice A3 q.n.ws.length c3) (.bool q.d.neg) (.slice A4 q.d.ws.length c4) := Box4.mk (by omega) (by subst hw0; refine ⟨?_, ?_, ?_, ?_⟩ <;> go_simp)
  have k0 : Four (w.heap.size + 2) w0 := by subst hw0; exact Four.alloc _ _ _ _ _ (by simp)
  have f0 : Fr w w0 (· = w.heap.size + 2) w0 := Fr.start hb0
  have z0 : w0.heap.size = w.heap.size + 3 := by subst hw0; simp
  clear hw0
  go_region_held3 (fun W => Fr w w0 (· = w.heap.size + 2) W) (first | assumption | exact Fr.drew (by assumption) | exact Fr.call (by assumption) (by assumption) | exact Fr.put4 f2 (by rfl) (by omega) _ _ _ _) (first
    | (go_at_call 118; (with_reducible refine (whole_Mul_calls _ _ p.n q.n _ (hpn.below (Fr.b (by assumption))) (hqn.below (Fr.b (by assumption))) HL1.out).mono ?_); rintro e w4 ⟨z3, x3, HZ3, rfl, hZ3, hb4⟩; obtain ⟨v5, rfl, r5, A5, c5, rfl, h5⟩ := hZ3; replace h5 := h5.mono (Nat.le_trans (Nat.le_of_eq z0.symm) (Fr.size (by assumption))))
    | (go_at_call 118; (with_reducible refine (whole_Mul_calls _ _ p.d q.d _ (hpd.below (Fr.b (by assumption))) (hqd.below (Fr.b (by assumption))) HL3.out).mono ?_); rintro e w5 ⟨z4, x4, HZ4, rfl, hZ4, hb5⟩; obtain ⟨v6, rfl, r6, A6, c6, rfl, h6⟩ := hZ4; replace h6 := h6.mono (Nat.le_trans (Nat.le_of_eq z0.symm) (Fr.size (by assumption))); have f2 := Fr.call (by assumption) hb5; obtain ⟨⟨x0, y0⟩, ⟨x1, y1⟩, ⟨x2, y2⟩, ⟨x3, y3⟩, g0, g1, g2, g3⟩ := (Fr.four f2 k0).cells))
  go_wp2
  have hQ : NQ (w.heap.size + 3) w5 (.agg #[.bool z3.neg, .slice A5 z3.ws.length c5, .bool z4.neg, .slice A6 z4.ws.length c6]) ⟨z3, z4⟩ := ⟨_, _, rfl, ⟨r5, A5, c5, rfl, h5.below hb5⟩, ⟨r6, A6, c6, rfl, h6⟩⟩
  exact bodyPost_ret (v := .agg #[.bool _, .slice _ _ _, .bool _, .slice _ _ _]) (by simp [results, Try.results128, go_sem, y0, y1, y2, y3]) rfl (postN_put4 hQ HZ3.out HZ4.out f2.b (by omega) (by omega))
end Go.Proofs.Ytnmmgegnioihmaa
