/- Package frac: of, least. -/
import Derived.Test.YtnmmgegnioihmaaWholeB
import Derived.WideMake
import Derived.Deep.CutRange
set_option linter.unusedVariables false
set_option linter.unusedSimpArgs false
namespace Go.Proofs.Ytnmmgegnioihmaa
open Go.RowKit

/-- the parts of a rational: a positive denominator -/
structure Parts (q p : Qr) : Prop where
  sg : (p.n.val = q.n.val ∧ p.d.val = q.dv) ∨ (p.n.val = -q.n.val ∧ p.d.val = -q.dv)
  pos : 0 < p.d.val
  ln : p.n.ws.length ≤ q.S
  ld : p.d.ws.length ≤ q.S
theorem Parts.val {q p : Qr} (h : Parts q p) : Rat.divInt p.n.val p.d.val = q.val := by
  unfold Qr.val
  rcases h.sg with ⟨h1, h2⟩ | ⟨h1, h2⟩
  · rw [h1, h2]
  · rw [h1, h2, Rat.neg_divInt_neg]
theorem Qr.dv_eq {q : Qr} (h : q.d.val ≠ 0) : q.dv = q.d.val := by unfold Qr.dv; rw [if_neg h]
theorem parts_neg {q : Qr} (hs : q.d.val < 0) (h1 : Rng q.n.ws) (h2 : Rng q.d.ws) : Parts q ⟨canZ (-q.n.val), canZ (-q.d.val)⟩ := by
  refine ⟨.inr ⟨canZ_val _, ?_⟩, ?_, ?_, ?_⟩
  · rw [Qr.dv_eq (by omega)]; exact canZ_val _
  · show 0 < (canZ (-q.d.val)).val; rw [canZ_val]; omega
  · exact Nat.le_trans (canZ_len (k := q.n.ws.length) (by rw [Int.natAbs_neg]; exact Zr.val_lt h1)) (by unfold Qr.S; omega)
  · exact Nat.le_trans (canZ_len (k := q.d.ws.length) (by rw [Int.natAbs_neg]; exact Zr.val_lt h2)) (by unfold Qr.S; omega)
theorem parts_pos {q : Qr} (hs : 0 < q.d.val) : Parts q ⟨q.n, q.d⟩ := ⟨.inl ⟨rfl, (Qr.dv_eq (q := q) (by omega)).symm⟩, hs, by unfold Qr.S; dsimp only; omega, by unfold Qr.S; dsimp only; omega⟩
theorem parts_zero {q : Qr} (hs : q.d.val = 0) : Parts q ⟨q.n, canZ 1⟩ := by
  refine ⟨.inl ⟨rfl, ?_⟩, ?_, by unfold Qr.S; dsimp only; omega, ?_⟩
  · unfold Qr.dv; rw [if_pos hs]; exact canZ_val _
  · show 0 < (canZ 1).val; rw [canZ_val]; omega
  · exact Nat.le_trans (canZ_len (k := 1) (by decide)) (by unfold Qr.S; omega)
def PostP (w : World) (q : Qr) (e : Ending) (w' : World) : Prop := ∃ p v, Hid (Parts q p) ∧ e = .returned v ∧ IsQ w' v p ∧ Below w.heap.size w w'
theorem NQ.put4 {w1 : World} {v : Value} {q : Qr} {n0 k : Nat} {a b c d : Value} (h : NQ n0 w1 v q) (hk : k < n0) : NQ n0 ((((w1.setCell ⟨k, 0, none⟩ a).setCell ⟨k, 1, none⟩ b).setCell ⟨k, 2, none⟩ c).setCell ⟨k, 3, none⟩ d) v q :=
  (((h.setCell (p := ⟨k, 0, none⟩) hk a).setCell (p := ⟨k, 1, none⟩) hk b).setCell (p := ⟨k, 2, none⟩) hk c).setCell (p := ⟨k, 3, none⟩) hk d
theorem NW.put4 {w1 : World} {v : Value} {xs : List Nat} {n0 k : Nat} {a b c d : Value} (h : NW n0 w1 v xs) (hk : k < n0) : NW n0 ((((w1.setCell ⟨k, 0, none⟩ a).setCell ⟨k, 1, none⟩ b).setCell ⟨k, 2, none⟩ c).setCell ⟨k, 3, none⟩ d) v xs :=
  (((h.setCell (p := ⟨k, 0, none⟩) hk a).setCell (p := ⟨k, 1, none⟩) hk b).setCell (p := ⟨k, 2, none⟩) hk c).setCell (p := ⟨k, 3, none⟩) hk d
theorem bl_put4 {w w1 : World} {k : Nat} {a b c d : Value} (hb : Below w.heap.size w w1) (hk : w.heap.size ≤ k) :
    Below w.heap.size w ((((w1.setCell ⟨k, 0, none⟩ a).setCell ⟨k, 1, none⟩ b).setCell ⟨k, 2, none⟩ c).setCell ⟨k, 3, none⟩ d) :=
  (((hb.setCell (p := ⟨k, 0, none⟩) hk a).setCell (p := ⟨k, 1, none⟩) hk b).setCell (p := ⟨k, 2, none⟩) hk c).setCell (p := ⟨k, 3, none⟩) hk d
theorem IsW.sameB {w0 w' W' : World} {v : Value} {xs : List Nat} (h : IsW w0 v xs) (hb : Below w0.heap.size w0 w') (hk : ∀ k, k < w0.heap.size → W'.heap[k]? = w'.heap[k]?) : IsW W' v xs := by
  obtain ⟨hr, A, c, e, h⟩ := h
  exact ⟨hr, A, c, e, h.same fun k hk0 => (hk k hk0).trans (hb.block k hk0)⟩
theorem NW.sameF {n0 : Nat} {w' W' : World} {v : Value} {xs : List Nat} (h : NW n0 w' v xs) (hk : ∀ k, k < w'.heap.size → n0 ≤ k → W'.heap[k]? = w'.heap[k]?) : IsW W' v xs := by
  obtain ⟨hr, A, c, e, h⟩ := h
  refine ⟨hr, A, c, e, ⟨h.le, h.mx, h.nl, fun hx => ?_⟩⟩
  obtain ⟨b, off, e1, hc⟩ := h.rd hx
  obtain ⟨b', off', e2, hn, _⟩ := h.own hx
  rw [e1] at e2; cases e2
  refine ⟨b, off, e1, fun j x hj => ?_⟩
  rw [← hc j x hj]
  exact World.cell?_of_block (w := w') (hk _ (World.block_lt_of_cell? w' _ (hc j x hj)) hn)
/-- what is left of a call of 'of' in worlds that agree on the old blocks and on the call's own -/
def PostPx (w0 w : World) (q : Qr) (e : Ending) (w' : World) : Prop := ∃ p v, Hid (Parts q p) ∧ e = .returned v ∧ Below w.heap.size w w' ∧ Hid (∀ W', (∀ k, k < w'.heap.size → (k < w0.heap.size ∨ w.heap.size ≤ k) → W'.heap[k]? = w'.heap[k]?) → IsQ W' v p)
set_option maxHeartbeats 2000000 in
theorem of_callsx (va : Value) (q : Qr) (w00 w : World) (ha00 : IsQ w00 va q) (h00 : Below w00.heap.size w00 w) (hlen : q.S ≤ 35184372088832) : Calls Try.prog 117 #[va] w (PostPx w00 w q) := by
  have ha := ha00.below h00
  have HA00 := Lib.hid ha00
  clear ha00
  obtain ⟨v1, v2, rfl, hn, hd⟩ := ha
  have hzd : IsZ w (.agg #[.bool q.d.neg, v2]) q.d := ⟨v2, rfl, hd⟩
  have hzn : IsZ w (.agg #[.bool q.n.neg, v1]) q.n := ⟨v1, rfl, hn⟩
  obtain ⟨rn, An, cn, rfl, hrn⟩ := hn
  obtain ⟨rd, Ad, cd, rfl, hrd⟩ := hd
  have hln : q.n.ws.length ≤ q.S ∧ q.d.ws.length ≤ q.S ∧ 1 ≤ q.S := by unfold Qr.S; omega
  have HLN := Lib.hid hln
  have HL := Lib.hid hlen
  have HLn : Hid (q.n.ws.length ≤ 35184372088832) := Lib.hid (by omega)
  have HLd : Hid (q.d.ws.length ≤ 35184372088832) := Lib.hid (by omega)
  clear hln hlen
  have hsign : ∀ w', IsZ w' (.agg #[.bool q.d.neg, .slice Ad q.d.ws.length cd]) q.d → Calls Try.prog 123 #[.agg #[.bool q.d.neg, .slice Ad q.d.ws.length cd]] w' fun e w'' => e = .returned (.int .i64 q.d.val.sign) ∧ Below w'.heap.size w' w'' := fun w' h => Sign_calls _ _ _ h
  obtain ⟨sg, hsg⟩ : ∃ sg, sg = q.d.val.sign := ⟨_, rfl⟩
  rw [← hsg] at hsign
  rcases Int.lt_trichotomy q.d.val 0 with hs | hs | hs
  · have h1 : sg = -1 := by rw [hsg, Int.sign_eq_neg_one_of_neg hs]
    subst h1
    have hv := hs
    have HV := Lib.hid hv
    clear hsg hs hv
    go_enter Try.func117, Try.ntmps117
    go_wp2_with (go_at_call 123; generalize hw0 : World.alloc _ _ = w0
                 have hb0 : Below w.heap.size w w0 := by subst hw0; exact bl_alloc2 (bl_alloc _ _) _
                 have t1 : Box4 w w0 (· = w.heap.size + 1) w.heap.size (.bool q.n.neg) (.slice An q.n.ws.length cn) (.bool q.d.neg) (.slice Ad q.d.ws.length cd) := Box4.mk (by omega) (by subst hw0; refine ⟨?_, ?_, ?_, ?_⟩ <;> go_simp)
                 have k0 : Four (w.heap.size + 1) w0 := by subst hw0; exact Four.alloc _ _ _ _ _ (by simp)
                 have f0 : Fr w w0 (· = w.heap.size + 1) w0 := Fr.start hb0
                 have z0 : w0.heap.size = w.heap.size + 2 := by subst hw0; simp
                 clear hw0
                 refine (hsign w0 (hzd.below hb0)).mono ?_; rintro e w1 ⟨rfl, hb1⟩; have f1 := f0.call hb1; obtain ⟨u0, u1, u2, u3⟩ := t1 _ f1; have z1 := f1.size)
    go_region_held3 (fun W => Fr w w0 (· = w.heap.size + 1) W) (first | assumption | exact Fr.drew (by assumption) | exact Fr.call (by assumption) (by assumption) | exact Fr.put4 f2 (by rfl) (by omega) _ _ _ _) (first
      | (go_at_call 143; (with_reducible refine (whole_Neg_calls _ q.n _ (hzn.below (Fr.b (by assumption))) HLn.out).mono ?_); rintro e w2 ⟨z1, x1, HZ1, rfl, hZ1, hb2⟩; obtain ⟨v3, rfl, hr1, A1, c1, rfl, hN1⟩ := hZ1; replace hN1 := hN1.mono (Nat.le_trans (Nat.le_of_eq z0.symm) (Fr.size (by assumption))))
      | (go_at_call 143; (with_reducible refine (whole_Neg_calls _ q.d _ (hzd.below (Fr.b (by assumption))) HLd.out).mono ?_); rintro e w3 ⟨z2, x2, HZ2, rfl, hZ2, hb3⟩; obtain ⟨v4, rfl, hr2, A2, c2, rfl, hN2⟩ := hZ2; replace hN2 := hN2.mono (Nat.le_trans (Nat.le_of_eq z0.symm) (Fr.size (by assumption))); have f2 := Fr.call (by assumption) hb3; obtain ⟨⟨x0, y0⟩, ⟨x1, y1⟩, ⟨x2, y2⟩, ⟨x3, y3⟩, g0, g1, g2, g3⟩ := (Fr.four f2 k0).cells))
    go_wp2
    have hQ : NQ (w.heap.size + 2) w3 (.agg #[.bool z1.neg, .slice A1 z1.ws.length c1, .bool z2.neg, .slice A2 z2.ws.length c2]) ⟨z1, z2⟩ := ⟨_, _, rfl, ⟨hr1, A1, c1, rfl, hN1.below hb3⟩, ⟨hr2, A2, c2, rfl, hN2⟩⟩
    refine bodyPost_ret (v := .agg #[.bool z1.neg, .slice A1 z1.ws.length c1, .bool z2.neg, .slice A2 z2.ws.length c2]) (by simp [results, Try.results117, go_sem, y0, y1, y2, y3]) rfl ⟨⟨z1, z2⟩, _, ?_, rfl, bl_put4 f2.b (by omega), Lib.hid fun W' hW' => ?_⟩
    rotate_left
    · obtain ⟨v5, v6, e, q1, q2⟩ := (hQ.put4 (k := w.heap.size + 1) (a := .bool z1.neg) (b := .slice A1 z1.ws.length c1) (c := .bool z2.neg) (d := .slice A2 z2.ws.length c2) (by omega))
      exact ⟨v5, v6, e, q1.sameF fun k h1 h2 => hW' k h1 (.inr (by omega)), q2.sameF fun k h1 h2 => hW' k h1 (.inr (by omega))⟩
    rw [HZ1.out, HZ2.out]; exact parts_neg HV.out rn rd
  · have h1 : sg = 0 := by rw [hsg, hs]; rfl
    subst h1
    have HV := Lib.hid hs
    clear hsg hs
    go_enter Try.func117, Try.ntmps117
    go_wp2_with (go_at_call 123; generalize hw0 : World.alloc _ _ = w0
                 have hb0 : Below w.heap.size w w0 := by subst hw0; exact bl_alloc2 (bl_alloc _ _) _
                 have t1 : Box4 w w0 (· = w.heap.size + 1) w.heap.size (.bool q.n.neg) (.slice An q.n.ws.length cn) (.bool q.d.neg) (.slice Ad q.d.ws.length cd) := Box4.mk (by omega) (by subst hw0; refine ⟨?_, ?_, ?_, ?_⟩ <;> go_simp)
                 have k0 : Four (w.heap.size + 1) w0 := by subst hw0; exact Four.alloc _ _ _ _ _ (by simp)
                 have f0 : Fr w w0 (· = w.heap.size + 1) w0 := Fr.start hb0
                 have z0 : w0.heap.size = w.heap.size + 2 := by subst hw0; simp
                 clear hw0
                 refine (hsign w0 (hzd.below hb0)).mono ?_; rintro e w1 ⟨rfl, hb1⟩; have f1 := f0.call hb1; obtain ⟨u0, u1, u2, u3⟩ := t1 _ f1; have z1 := f1.size)
    go_region_held3 (fun W => Fr w w0 (· = w.heap.size + 1) W) (first | assumption | exact Fr.drew (by assumption) | exact Fr.call (by assumption) (by assumption) | exact Fr.put4 f2 (by rfl) (by omega) _ _ _ _) (first
      | (go_at_call 116; (with_reducible refine (FromInt64_calls 1 _ (by omega) (by omega)).mono ?_); rintro e w3 ⟨z2, x2, HZ2, rfl, hZ2, hb3⟩; obtain ⟨v4, rfl, hr2, A2, c2, rfl, hN2⟩ := hZ2; replace hN2 := hN2.mono (Nat.le_trans (Nat.le_of_eq z0.symm) (Fr.size (by assumption))); have f2 := Fr.call (by assumption) hb3; obtain ⟨⟨x0, y0⟩, ⟨x1, y1⟩, ⟨x2, y2⟩, ⟨x3, y3⟩, g0, g1, g2, g3⟩ := (Fr.four f2 k0).cells))
    go_wp2
    have hb9 := bl_put4 (k := w.heap.size + 1) (a := .bool q.n.neg) (b := .slice An q.n.ws.length cn) (c := .bool z2.neg) (d := .slice A2 z2.ws.length c2) f2.b (by omega)
    have hQ : NW (w.heap.size + 2) w3 (.slice A2 z2.ws.length c2) z2.ws := ⟨hr2, A2, c2, rfl, hN2⟩
    refine bodyPost_ret (v := .agg #[.bool q.n.neg, .slice An q.n.ws.length cn, .bool z2.neg, .slice A2 z2.ws.length c2]) (by simp [results, Try.results117, go_sem, y0, y1, y2, y3]) rfl ⟨⟨q.n, z2⟩, _, ?_, rfl, hb9, Lib.hid fun W' hW' => ?_⟩
    rotate_left
    · obtain ⟨v5, v6, e, q1, q2⟩ := HA00.out
      injection e with e; injection e with e; injection e with _ e; injection e with e1 _; subst e1
      exact ⟨_, _, rfl, q1.sameB (bl_trans h00 hb9) fun k hk => hW' k (Nat.lt_of_lt_of_le hk (bl_trans h00 hb9).size) (.inl hk), (NW.put4 hQ (by omega)).sameF fun k h1 h2 => hW' k h1 (.inr (by omega))⟩
    rw [HZ2.out]; exact parts_zero HV.out
  · have h1 : sg = 1 := by rw [hsg, Int.sign_eq_one_of_pos hs]
    subst h1
    have HV := Lib.hid hs
    clear hsg hs
    go_enter Try.func117, Try.ntmps117
    go_wp2_with (go_at_call 123; generalize hw0 : World.alloc _ _ = w0
                 have hb0 : Below w.heap.size w w0 := by subst hw0; exact bl_alloc2 (bl_alloc _ _) _
                 have t1 : Box4 w w0 (· = w.heap.size + 1) w.heap.size (.bool q.n.neg) (.slice An q.n.ws.length cn) (.bool q.d.neg) (.slice Ad q.d.ws.length cd) := Box4.mk (by omega) (by subst hw0; refine ⟨?_, ?_, ?_, ?_⟩ <;> go_simp)
                 have k0 : Four (w.heap.size + 1) w0 := by subst hw0; exact Four.alloc _ _ _ _ _ (by simp)
                 have f0 : Fr w w0 (· = w.heap.size + 1) w0 := Fr.start hb0
                 have z0 : w0.heap.size = w.heap.size + 2 := by subst hw0; simp
                 clear hw0
                 refine (hsign w0 (hzd.below hb0)).mono ?_; rintro e w1 ⟨rfl, hb1⟩; have f1 := f0.call hb1; obtain ⟨u0, u1, u2, u3⟩ := t1 _ f1; have z1 := f1.size; obtain ⟨⟨x0, y0⟩, ⟨x1, y1⟩, ⟨x2, y2⟩, ⟨x3, y3⟩, g0, g1, g2, g3⟩ := (Fr.four f1 k0).cells)
    have hb9 := bl_put4 (k := w.heap.size + 1) (a := .bool q.n.neg) (b := .slice An q.n.ws.length cn) (c := .bool q.d.neg) (d := .slice Ad q.d.ws.length cd) f1.b (by omega)
    exact bodyPost_ret (v := .agg #[.bool q.n.neg, .slice An q.n.ws.length cn, .bool q.d.neg, .slice Ad q.d.ws.length cd]) (by simp [results, Try.results117, go_sem, y0, y1, y2, y3]) rfl ⟨⟨q.n, q.d⟩, _, parts_pos HV.out, rfl, hb9, Lib.hid fun W' hW' => by
      obtain ⟨v5, v6, e, q1, q2⟩ := HA00.out
      exact ⟨v5, v6, e, q1.sameB (bl_trans h00 hb9) fun k hk => hW' k (Nat.lt_of_lt_of_le hk (bl_trans h00 hb9).size) (.inl hk), q2.sameB (bl_trans h00 hb9) fun k hk => hW' k (Nat.lt_of_lt_of_le hk (bl_trans h00 hb9).size) (.inl hk)⟩⟩
theorem of_calls (va : Value) (q : Qr) (w : World) (ha : IsQ w va q) (hlen : q.S ≤ 35184372088832) : Calls Try.prog 117 #[va] w (PostP w q) :=
  (of_callsx va q w w ha (Below.refl _ _) hlen).mono fun e w' ⟨p, v, HP, he, hb, hH⟩ => ⟨p, v, HP, he, hH.out w' (fun _ _ _ => rfl), hb⟩
end Go.Proofs.Ytnmmgegnioihmaa
namespace Go.Proofs.Ytnmmgegnioihmaa

structure LeastOk (n d : Int) (x : Rat) (B : Nat) : Prop where
  pos : 0 < d
  val : Rat.divInt n d = x
  S : (canQ x).S ≤ B
  ln : (canZ n).ws.length ≤ B
  ld : (canZ d).ws.length ≤ B
theorem least_ok {n d : Int} {x : Rat} {k : Nat} (hd : 0 < d) (hv : Rat.divInt n d = x) (h1 : n.natAbs < 4294967296 ^ k) (h2 : d.natAbs < 4294967296 ^ k) : LeastOk n d x (k + 1) :=
  ⟨hd, hv, by rw [← hv]; exact canQ_S_divInt (by omega) h1 h2, Nat.le_succ_of_le (canZ_len h1), Nat.le_succ_of_le (canZ_len h2)⟩
theorem Parts.n_lt {q p : Qr} (h : Parts q p) (ok : q.Ok) : p.n.val.natAbs < 4294967296 ^ (q.S - 1) := by
  have := Qr.num_lt ok
  rcases h.sg with ⟨h1, _⟩ | ⟨h1, _⟩ <;> rw [h1]
  · exact this
  · rwa [Int.natAbs_neg]
theorem Parts.d_le {q p : Qr} (h : Parts q p) (ok : q.Ok) : p.d.val.natAbs ≤ 4294967296 ^ (q.S - 1) := by
  have := Qr.dv_le ok
  rcases h.sg with ⟨_, h1⟩ | ⟨_, h1⟩ <;> rw [h1]
  · exact this
  · rwa [Int.natAbs_neg]
theorem S_pos (q : Qr) : 1 ≤ q.S := by unfold Qr.S; omega
theorem pow_two_lt (x y : Nat) : 2 * (4294967296 ^ x * 4294967296 ^ y) ≤ 4294967296 ^ (x + y + 1) := by
  rw [Nat.pow_succ, Nat.pow_add, Nat.mul_comm]
  exact Nat.mul_le_mul_left _ (by omega)
theorem sum_natAbs {n1 d1 n2 d2 : Int} {P Q : Nat} (h1 : n1.natAbs < P) (h2 : d1.natAbs ≤ P) (h3 : n2.natAbs < Q) (h4 : d2.natAbs ≤ Q) : (n1 * d2).natAbs < P * Q ∧ (n2 * d1).natAbs < P * Q ∧ (d1 * d2).natAbs ≤ P * Q ∧ (n1 * n2).natAbs < P * Q := by
  rw [Int.natAbs_mul, Int.natAbs_mul, Int.natAbs_mul, Int.natAbs_mul]
  refine ⟨?_, ?_, Nat.mul_le_mul h2 h4, Nat.mul_lt_mul'' h1 h3⟩
  · exact Nat.lt_of_le_of_lt (Nat.mul_le_mul_left _ h4) (Nat.mul_lt_mul_of_pos_right h1 (by omega))
  · rw [Nat.mul_comm P Q]
    exact Nat.lt_of_le_of_lt (Nat.mul_le_mul_left _ h2) (Nat.mul_lt_mul_of_pos_right h3 (by omega))
section
variable {a b p q : Qr}
theorem parts_bounds (hp : Parts a p) (hq : Parts b q) (ka : a.Ok) (kb : b.Ok) : ∃ M : Nat, 2 * M ≤ 4294967296 ^ (a.S + b.S - 1) ∧ (p.n.val * q.d.val).natAbs < M ∧ (q.n.val * p.d.val).natAbs < M ∧ (p.d.val * q.d.val).natAbs ≤ M ∧ (p.n.val * q.n.val).natAbs < M := by
  have h := sum_natAbs (hp.n_lt ka) (hp.d_le ka) (hq.n_lt kb) (hq.d_le kb)
  refine ⟨_, ?_, h⟩
  have h1 := S_pos a
  have h2 := S_pos b
  have := pow_two_lt (a.S - 1) (b.S - 1)
  rwa [show a.S - 1 + (b.S - 1) + 1 = a.S + b.S - 1 by omega] at this
theorem add_ok (hp : Parts a p) (hq : Parts b q) (ka : a.Ok) (kb : b.Ok) : LeastOk (p.n.val * q.d.val + q.n.val * p.d.val) (p.d.val * q.d.val) (a.val + b.val) (a.S + b.S) := by
  obtain ⟨M, hM, h1, h2, h3, h4⟩ := parts_bounds hp hq ka kb
  have hs : a.S + b.S = a.S + b.S - 1 + 1 := by have := S_pos a; omega
  rw [hs]
  have hb := Int.natAbs_add_le (p.n.val * q.d.val) (q.n.val * p.d.val)
  refine least_ok (Int.mul_pos hp.pos hq.pos) ?_ (by omega) (by omega)
  rw [← hp.val, ← hq.val, Rat.divInt_add_divInt _ _ (by have := hp.pos; omega) (by have := hq.pos; omega)]
theorem sub_ok (hp : Parts a p) (hq : Parts b q) (ka : a.Ok) (kb : b.Ok) : LeastOk (p.n.val * q.d.val - q.n.val * p.d.val) (p.d.val * q.d.val) (a.val - b.val) (a.S + b.S) := by
  obtain ⟨M, hM, h1, h2, h3, h4⟩ := parts_bounds hp hq ka kb
  have hs : a.S + b.S = a.S + b.S - 1 + 1 := by have := S_pos a; omega
  rw [hs]
  refine least_ok (Int.mul_pos hp.pos hq.pos) ?_ (by omega) (by omega)
  rw [← hp.val, ← hq.val, Rat.divInt_sub_divInt _ _ (by have := hp.pos; omega) (by have := hq.pos; omega)]
theorem mul_ok (hp : Parts a p) (hq : Parts b q) (ka : a.Ok) (kb : b.Ok) : LeastOk (p.n.val * q.n.val) (p.d.val * q.d.val) (a.val * b.val) (a.S + b.S) := by
  obtain ⟨M, hM, h1, h2, h3, h4⟩ := parts_bounds hp hq ka kb
  have hs : a.S + b.S = a.S + b.S - 1 + 1 := by have := S_pos a; omega
  rw [hs]
  refine least_ok (Int.mul_pos hp.pos hq.pos) ?_ (by omega) (by omega)
  rw [← hp.val, ← hq.val, Rat.divInt_mul_divInt]
theorem can_ok (hp : Parts a p) (ka : a.Ok) : (canQ a.val).S ≤ a.S + 1 := by
  rw [← hp.val]
  have h1 := hp.n_lt ka
  have h2 := hp.d_le ka
  have hs := S_pos a
  have h3 : 4294967296 ^ (a.S - 1) < 4294967296 ^ a.S := Nat.pow_lt_pow_right (by omega) (by omega)
  exact canQ_S_divInt (by have := hp.pos; omega) (Nat.lt_trans h1 h3) (Nat.lt_of_le_of_lt h2 h3)
end
end Go.Proofs.Ytnmmgegnioihmaa
namespace Go.Proofs.Ytnmmgegnioihmaa
open Go.RowKit

/-- a new variable of two cells, filled -/
theorem bl_new2 (w : World) (T : TypeId) (x y a b : Value) : Below w.heap.size w (((w.alloc (.cells #[x, y] T)).setCell ⟨w.heap.size, 0, none⟩ a).setCell ⟨w.heap.size, 1, none⟩ b) :=
  ((bl_alloc w _).setCell (p := ⟨w.heap.size, 0, none⟩) (Nat.le_refl _) a).setCell (p := ⟨w.heap.size, 1, none⟩) (Nat.le_refl _) b
theorem least_num {a b : Int} (hb : 0 < b) : (Rat.divInt a b).num = a / (Int.gcd a b : Nat) := by
  rw [Rat.num_divInt, Int.sign_eq_one_of_pos hb, Int.one_mul, Int.gcd_comm]
theorem least_den {a b : Int} (hb : 0 < b) : ((Rat.divInt a b).den : Int) = b / (Int.gcd a b : Nat) := by
  rw [Rat.den_divInt, if_neg (by omega), Int.gcd_comm]
  have : (b.natAbs : Int) = b := by omega
  rw [Int.natCast_ediv, this]
theorem gcd_ne {a b : Int} (hb : 0 < b) : ((Int.gcd a b : Nat) : Int) ≠ 0 := by
  intro h
  have := (Int.gcd_eq_zero_iff (a := a) (b := b)).1 (by omega)
  omega
theorem gcd_len {a b : Int} {xs : List Nat} (hb : 0 < b) (h : b.natAbs < 4294967296 ^ xs.length) : (canZ (Int.gcd a b : Nat)).ws.length ≤ xs.length := by
  refine canZ_len ?_
  have : Int.gcd a b ≤ b.natAbs := Int.gcd_le_natAbs_right _ (by omega)
  simp
  omega
theorem Fr.all {w w6 W : World} (h : Fr w w6 (fun _ => False) W) (h0 : Below w.heap.size w w6) : Below w6.heap.size w6 W :=
  ⟨h.b.os.trans h0.os.symm, h.b.tape.trans h0.tape.symm, h.b.output.trans h0.output.symm, h.size, fun k hk => h.block k hk (fun h => h)⟩
theorem den_sign {d : Nat} (hd : d ≠ 0) : ((d : Int) - 1).sign = 0 ↔ d = 1 := by rw [Int.sign_eq_zero_iff_zero]; omega
set_option maxHeartbeats 2000000 in
theorem least_calls (va : Value) (p : Qr) (x : Rat) (B : Nat) (w : World) (ha : IsQ w va p) (hd : 0 < p.d.val) (hx : Rat.divInt p.n.val p.d.val = x) (hB : (canQ x).S ≤ B) (hlen : 2 * (p.n.ws.length + p.d.ws.length) + 4 ≤ 35184372088832) :
    Calls Try.prog 131 #[va] w (PostQ w x B) := by
  obtain ⟨v1, v2, rfl, hn, hdd⟩ := ha
  have hzn : IsZ w (.agg #[.bool p.n.neg, v1]) p.n := ⟨v1, rfl, hn⟩
  have hzd : IsZ w (.agg #[.bool p.d.neg, v2]) p.d := ⟨v2, rfl, hdd⟩
  obtain ⟨rn, An, cn, rfl, hrn⟩ := hn
  obtain ⟨rd, Ad, cd, rfl, hrd⟩ := hdd
  have hgl := gcd_len (a := p.n.val) hd (Zr.val_lt rd)
  have hnum := least_num (a := p.n.val) hd
  have hden := least_den (a := p.n.val) hd
  rw [hx] at hnum hden
  have hg0 := gcd_ne (a := p.n.val) hd
  obtain ⟨G, hG⟩ : ∃ G : Int, G = (Int.gcd p.n.val p.d.val : Nat) := ⟨_, rfl⟩
  have hgc := GCD_calls
  have hL1 : 2 * (p.n.ws.length + p.d.ws.length) + 4 ≤ 35184372088832 := hlen
  have hL2 : p.n.ws.length + (canZ G).ws.length + 4 ≤ 35184372088832 := by rw [hG]; omega
  have hL3 : p.d.ws.length + (canZ G).ws.length + 4 ≤ 35184372088832 := by rw [hG]; omega
  rw [← hG] at hnum hden hg0
  have HL1 := Lib.hid hL1
  have HL2 := Lib.hid hL2
  have HL3 := Lib.hid hL3
  have HG := Lib.hid hG
  have HNM := Lib.hid hnum
  have HDN := Lib.hid hden
  have HB := Lib.hid hB
  clear hlen hL1 hL2 hL3 hG hnum hden hB hgl hx hgc
  go_enter Try.func131, Try.ntmps131
  go_wp2_with (first
    | (go_at_call 151; generalize hw0 : World.alloc _ _ = w0
       have hb0 : Below w.heap.size w w0 := by subst hw0; exact bl_alloc2 (bl_alloc _ _) _
       have t0 : w0.cell? ⟨w.heap.size, 0, none⟩ = some (.bool p.n.neg) ∧ w0.cell? ⟨w.heap.size, 1, none⟩ = some (.slice An p.n.ws.length cn) ∧ w0.cell? ⟨w.heap.size, 2, none⟩ = some (.bool p.d.neg) ∧ w0.cell? ⟨w.heap.size, 3, none⟩ = some (.slice Ad p.d.ws.length cd) := by subst hw0; refine ⟨?_, ?_, ?_, ?_⟩ <;> go_simp
       have k0 : Four (w.heap.size + 1) w0 := by subst hw0; exact Four.alloc _ _ _ _ _ (by simp)
       have z0 : w0.heap.size = w.heap.size + 2 := by subst hw0; simp
       clear hw0
       refine (GCD_calls _ _ p.n p.d _ (hzn.below hb0) (hzd.below hb0) HL1.out).mono ?_; rw [← HG.out]; rintro e w1 ⟨zg, xg, HZG, rfl, hZg, hb1⟩
       obtain ⟨u0, u1, u2, u3⟩ := t0
       replace u0 := bl_cell hb1 u0; replace u1 := bl_cell hb1 u1; replace u2 := bl_cell hb1 u2; replace u3 := bl_cell hb1 u3
       replace hZg := hZg.is; obtain ⟨xg2, rfl, hrg, Ag, cg, rfl, hNg⟩ := hZg; obtain rfl := HZG.out
       have q0 := fun o => bl_cell (bl_alloc w1 o) u0; have q1 := fun o => bl_cell (bl_alloc w1 o) u1; have q2 := fun o => bl_cell (bl_alloc w1 o) u2; have q3 := fun o => bl_cell (bl_alloc w1 o) u3
       have z1 := hb1.size)
    | (go_at_call 152; generalize hw4 : World.alloc _ _ = w4
       have hb4 : Below w3.heap.size w3 w4 := by subst hw4; exact bl_alloc2 (bl_alloc _ _) _
       have r0 : w4.cell? ⟨w3.heap.size, 0, none⟩ = some (.bool zq.neg) ∧ w4.cell? ⟨w3.heap.size, 1, none⟩ = some (.slice Aq zq.ws.length cq) := by subst hw4; refine ⟨?_, ?_⟩ <;> go_simp
       clear hw4 p0 p1 p2 p3 p4 p5
       obtain ⟨r0, r1⟩ := r0
       have hby : Below w.heap.size w w4 := bl_trans hbz (bl_trans hb3 hb4)
       refine (DivMod_calls _ _ p.d (canZ G) _ (hzd.below hby) (hGz.below (bl_trans hb3 hb4)) (by rw [canZ_val]; exact hg0) HL3.out).mono ?_; rw [canZ_val]; rintro e w5 ⟨zd, ze, xd, xe, HZD, HZE, rfl, hZd, hZe, hb5⟩
       have z4 := hb4.size
       have z5 := hb5.size
       replace r0 := bl_cell hb5 r0; replace r1 := bl_cell hb5 r1
       obtain ⟨xd2, rfl, hrdd, Ad2, cd2, rfl, hNd⟩ := hZd; obtain ⟨xe2, rfl, hre, Ae, ce, rfl, hNe⟩ := hZe)
    | (go_at_call 152; generalize hw2 : World.alloc _ _ = w2
       have hb2 : Below w1.heap.size w1 w2 := by subst hw2; exact bl_alloc _ _
       have e0 : w2.cell? ⟨w1.heap.size, 0, none⟩ = some (.bool (canZ G).neg) ∧ w2.cell? ⟨w1.heap.size, 1, none⟩ = some (.slice Ag (canZ G).ws.length cg) := by subst hw2; refine ⟨?_, ?_⟩ <;> go_simp
       clear hw2 q0 q1 q2 q3
       obtain ⟨e0, e1⟩ := e0
       have hbz : Below w.heap.size w w2 := bl_trans hb0 (bl_trans hb1 hb2)
       have hGz : IsZ w2 (.agg #[.bool (canZ G).neg, .slice Ag (canZ G).ws.length cg]) (canZ G) := ⟨_, rfl, hrg, Ag, cg, rfl, hNg.below hb2⟩
       refine (DivMod_calls _ _ p.n (canZ G) _ (hzn.below hbz) hGz (by rw [canZ_val]; exact hg0) HL2.out).mono ?_; rw [canZ_val]; rintro e w3 ⟨zq, zr, xq, xr, HZQ, HZR, rfl, hZq, hZr, hb3⟩
       have z2 := hb2.size
       have z3 := hb3.size
       replace u0 := bl_cell (bl_trans hb2 hb3) u0; replace u1 := bl_cell (bl_trans hb2 hb3) u1; replace u2 := bl_cell (bl_trans hb2 hb3) u2; replace u3 := bl_cell (bl_trans hb2 hb3) u3
       replace e0 := bl_cell hb3 e0; replace e1 := bl_cell hb3 e1
       obtain ⟨xq2, rfl, hrq, Aq, cq, rfl, hNq⟩ := hZq; obtain ⟨xr2, rfl, hrr, Ar, cr, rfl, hNr⟩ := hZr
       have p0 := fun o o' => bl_cell (bl_alloc2 (bl_alloc w3 o) o') u0; have p1 := fun o o' => bl_cell (bl_alloc2 (bl_alloc w3 o) o') u1; have p2 := fun o o' => bl_cell (bl_alloc2 (bl_alloc w3 o) o') u2; have p3 := fun o o' => bl_cell (bl_alloc2 (bl_alloc w3 o) o') u3; have p4 := fun o o' => bl_cell (bl_alloc2 (bl_alloc w3 o) o') e0; have p5 := fun o o' => bl_cell (bl_alloc2 (bl_alloc w3 o) o') e1))
  generalize hw6 : World.alloc _ _ = w6
  have hb6 : Below w5.heap.size w5 w6 := by subst hw6; exact bl_alloc2 (bl_alloc _ _) _
  have s0 : w6.cell? ⟨w5.heap.size, 0, none⟩ = some (.bool zd.neg) ∧ w6.cell? ⟨w5.heap.size, 1, none⟩ = some (.slice Ad2 zd.ws.length cd2) := by subst hw6; refine ⟨?_, ?_⟩ <;> go_simp
  clear hw6
  have z6 := hb6.size
  have hbx : Below w.heap.size w w6 := bl_trans hby (bl_trans hb5 hb6)
  have t7 : Box2 w w6 (fun _ => False) w5.heap.size (.bool zd.neg) (.slice Ad2 zd.ws.length cd2) := Box2.mk (fun h => h) s0
  have t4 : Box2 w w6 (fun _ => False) w3.heap.size (.bool zq.neg) (.slice Aq zq.ws.length cq) := Box2.mk (fun h => h) ⟨bl_cell hb6 r0, bl_cell hb6 r1⟩
  have f6 : Fr w w6 (fun _ => False) w6 := Fr.start hbx
  have hdz : IsZ w6 (.agg #[.bool zd.neg, .slice Ad2 zd.ws.length cd2]) zd := ⟨_, rfl, hrdd, Ad2, cd2, rfl, (hNd.below hb6).toRow⟩
  have k6 : Four (w.heap.size + 1) w6 := ((k0.below hb1).below (bl_trans hb2 (bl_trans hb3 hb4))).below (bl_trans hb5 hb6)
  clear r0 r1 s0
  have hzdv : zd.val = (x.den : Int) := by rw [HZD.out, canZ_val, HDN.out]
  have hl4 : zd.ws.length + 1 + 2 ≤ 35184372088832 := by
    have h1 : zd.ws.length ≤ p.d.ws.length := by
      rw [HZD.out]
      exact canZ_len (Nat.lt_of_le_of_lt (Int.natAbs_ediv_le_natAbs _ _) (Zr.val_lt rd))
    have := HL1.out
    omega
  have HL4 := Lib.hid hl4
  have HZV := Lib.hid hzdv
  clear hl4 hzdv
  have hcmp : ∀ W vz (z1 : Zr), z1 = canZ 1 → IsZ W (.agg #[.bool zd.neg, .slice Ad2 zd.ws.length cd2]) zd → IsZ W vz z1 → Calls Try.prog 118 #[.agg #[.bool zd.neg, .slice Ad2 zd.ws.length cd2], vz] W fun e w' => e = .returned (.int .i64 ((x.den : Int) - 1).sign) ∧ Below W.heap.size W w' := fun W vz z1 e h1 h2 => by
    subst e
    have := whole_Cmp_calls _ _ zd (canZ 1) W h1 h2 (Nat.le_trans (Nat.add_le_add_right (Nat.add_le_add_left (canZ_len (k := 1) (by decide)) _) 2) HL4.out)
    rwa [HZV.out, canZ_val] at this
  have hds := den_sign x.den_nz
  obtain ⟨sg, hsg⟩ : ∃ sg, sg = ((x.den : Int) - 1).sign := ⟨_, rfl⟩
  rw [← hsg] at hcmp hds
  clear hsg
  by_cases h0 : sg = 0
  · subst h0
    have hq : canQ x = ⟨zq, ⟨false, []⟩⟩ := by
      unfold canQ
      rw [if_pos (hds.1 rfl), HZQ.out, HNM.out]
    have HQ := Lib.hid hq
    clear hds hq
    go_region_held3 (fun W => Fr w w6 (fun _ => False) W) (first | assumption | exact Fr.drew (by assumption) | exact Fr.call (by assumption) (by assumption)) (first
      | (go_at_call 116; (with_reducible refine (FromInt64_calls 1 _ (by omega) (by omega)).mono ?_); rintro e w7 ⟨z1, x1, HZ1, rfl, hZ1, hb7⟩; have f7 := Fr.call (by assumption) hb7)
      | (go_at_call 118; (with_reducible refine (hcmp _ _ z1 HZ1.out (hdz.below (f7.all hbx)) hZ1.is).mono ?_); rintro e w8 ⟨rfl, hb8⟩; have f8 := f7.call hb8; obtain ⟨⟨x0, y0⟩, ⟨x1, y1⟩, ⟨x2, y2⟩, ⟨x3, y3⟩, g0, g1, g2, g3⟩ := (k6.below (f8.all hbx)).cells; obtain ⟨u4, u5⟩ := t4 _ f8; obtain ⟨u7, u8⟩ := t7 _ f8))
    go_wp2
    have hqw := (((hNq.below hb4).below hb5).below hb6).below (f8.all hbx)
    have hQ : NQ w2.heap.size w8 (.agg #[.bool zq.neg, .slice Aq zq.ws.length cq, .bool false, .slice none 0 0]) ⟨zq, ⟨false, []⟩⟩ := ⟨_, _, rfl, ⟨hrq, Aq, cq, rfl, hqw⟩, ⟨Rng.nil, none, 0, rfl, NRow.nil _ _ _⟩⟩
    exact bodyPost_ret (v := .agg #[.bool _, .slice _ _ _, .bool _, .slice _ _ _]) (by simp [results, Try.results131, go_sem, y0, y1, y2, y3]) rfl (postQ_put4 hQ HQ.out.symm (by rw [← HQ.out]; exact HB.out) f8.b (by omega) (by omega))
  · have h1 : (sg == 0) = false := by simpa using h0
    have hq : canQ x = ⟨zq, zd⟩ := by
      unfold canQ
      rw [if_neg (fun h => h0 (hds.2 h)), HZQ.out, HZD.out, HNM.out, HDN.out]
    have HQ := Lib.hid hq
    clear hds hq
    go_region_held3 (fun W => Fr w w6 (fun _ => False) W) (first | assumption | exact Fr.drew (by assumption) | exact Fr.call (by assumption) (by assumption)) (first
      | (go_at_call 116; (with_reducible refine (FromInt64_calls 1 _ (by omega) (by omega)).mono ?_); rintro e w7 ⟨z1, x1, HZ1, rfl, hZ1, hb7⟩; have f7 := Fr.call (by assumption) hb7)
      | (go_at_call 118; (with_reducible refine (hcmp _ _ z1 HZ1.out (hdz.below (f7.all hbx)) hZ1.is).mono ?_); rintro e w8 ⟨rfl, hb8⟩; have f8 := f7.call hb8; obtain ⟨⟨x0, y0⟩, ⟨x1, y1⟩, ⟨x2, y2⟩, ⟨x3, y3⟩, g0, g1, g2, g3⟩ := (k6.below (f8.all hbx)).cells; obtain ⟨u4, u5⟩ := t4 _ f8; obtain ⟨u7, u8⟩ := t7 _ f8))
    go_wp2
    have hqw := (((hNq.below hb4).below hb5).below hb6).below (f8.all hbx)
    have hdw := (hNd.below hb6).below (f8.all hbx)
    have hQ : NQ w2.heap.size w8 (.agg #[.bool zq.neg, .slice Aq zq.ws.length cq, .bool zd.neg, .slice Ad2 zd.ws.length cd2]) ⟨zq, zd⟩ := ⟨_, _, rfl, ⟨hrq, Aq, cq, rfl, hqw⟩, ⟨hrdd, Ad2, cd2, rfl, hdw.mono (by omega)⟩⟩
    exact bodyPost_ret (v := .agg #[.bool _, .slice _ _ _, .bool _, .slice _ _ _]) (by simp [results, Try.results131, go_sem, y0, y1, y2, y3]) rfl (postQ_put4 hQ HQ.out.symm (by rw [← HQ.out]; exact HB.out) f8.b (by omega) (by omega))
end Go.Proofs.Ytnmmgegnioihmaa
namespace Go.Proofs.Ytnmmgegnioihmaa
open Go.RowKit

def PostN (w : World) (n d : Int) (e : Ending) (w' : World) : Prop := ∃ z1 z2 v, Hid (z1 = canZ n) ∧ Hid (z2 = canZ d) ∧ e = .returned v ∧ NQ w.heap.size w' v ⟨z1, z2⟩ ∧ Below w.heap.size w w'
theorem postN_put4 {w w1 : World} {n d : Int} {v : Value} {z1 z2 : Zr} {k n1 : Nat} {a b c f : Value} (hz : NQ n1 w1 v ⟨z1, z2⟩) (e1 : z1 = canZ n) (e2 : z2 = canZ d) (hb : Below w.heap.size w w1) (h1 : w.heap.size ≤ k) (h2 : k < n1) :
    PostN w n d (.returned v) ((((w1.setCell ⟨k, 0, none⟩ a).setCell ⟨k, 1, none⟩ b).setCell ⟨k, 2, none⟩ c).setCell ⟨k, 3, none⟩ f) :=
  ⟨z1, z2, v, e1, e2, rfl, (hz.put4 h2).mono (by omega), bl_put4 hb h1⟩
theorem mul_len {x y : Zr} (hx : Rng x.ws) (hy : Rng y.ws) : (canZ (x.val * y.val)).ws.length ≤ x.ws.length + y.ws.length := by
  refine canZ_len ?_
  rw [Int.natAbs_mul, Nat.pow_add]
  have h1 := Zr.val_lt hx
  have h2 := Zr.val_lt hy
  exact Nat.mul_lt_mul'' h1 h2
set_option maxHeartbeats 2000000 in
theorem does_add_calls (va vb : Value) (p q : Qr) (w : World) (ha : IsQ w va p) (hb : IsQ w vb q) (hlen : p.n.ws.length + q.d.ws.length + (q.n.ws.length + p.d.ws.length) + (p.d.ws.length + q.d.ws.length) + 4 ≤ 35184372088832) :
    Calls Try.prog 125 #[va, vb] w (PostN w (p.n.val * q.d.val + q.n.val * p.d.val) (p.d.val * q.d.val)) := by
  obtain ⟨v1, v2, rfl, hn, hd⟩ := ha
  obtain ⟨v3, v4, rfl, hm, he⟩ := hb
  have hpn : IsZ w (.agg #[.bool p.n.neg, v1]) p.n := ⟨v1, rfl, hn⟩
  have hpd : IsZ w (.agg #[.bool p.d.neg, v2]) p.d := ⟨v2, rfl, hd⟩
  have hqn : IsZ w (.agg #[.bool q.n.neg, v3]) q.n := ⟨v3, rfl, hm⟩
  have hqd : IsZ w (.agg #[.bool q.d.neg, v4]) q.d := ⟨v4, rfl, he⟩
  have hl1 := mul_len hn.1 he.1
  have hl2 := mul_len hm.1 hd.1
  have HL1 : Hid (p.n.ws.length + q.d.ws.length ≤ 35184372088832) := Lib.hid (by omega)
  have HL2 : Hid (q.n.ws.length + p.d.ws.length ≤ 35184372088832) := Lib.hid (by omega)
  have HL3 : Hid (p.d.ws.length + q.d.ws.length ≤ 35184372088832) := Lib.hid (by omega)
  have HL4 : Hid ((canZ (p.n.val * q.d.val)).ws.length + (canZ (q.n.val * p.d.val)).ws.length + 2 ≤ 35184372088832) := Lib.hid (by omega)
  clear hlen hl1 hl2
  obtain ⟨r1, A1, c1, rfl, h1⟩ := hn
  obtain ⟨r2, A2, c2, rfl, h2⟩ := hd
  obtain ⟨r3, A3, c3, rfl, h3⟩ := hm
  obtain ⟨r4, A4, c4, rfl, h4⟩ := he
  clear h1 h2 h3 h4
  go_enter Try.func125, Try.ntmps125
  go_wp2
  generalize hw0 : World.alloc _ _ = w0
  have hb0 : Below w.heap.size w w0 := by subst hw0; exact bl_alloc2 (bl_alloc2 (bl_alloc _ _) _) _
  have t1 : Box4 w w0 (· = w.heap.size + 2) w.heap.size (.bool p.n.neg) (.slice A1 p.n.ws.length c1) (.bool p.d.neg) (.slice A2 p.d.ws.length c2) := Box4.mk (by omega) (by subst hw0; refine ⟨?_, ?_, ?_, ?_⟩ <;> go_simp)
  have t2 : Box4 w w0 (· = w.heap.size + 2) (w.heap.size + 1) (.bool q.n.neg) (.slice A3 q.n.ws.length c3) (.bool q.d.neg) (.slice A4 q.d.ws.length c4) := Box4.mk (by omega) (by subst hw0; refine ⟨?_, ?_, ?_, ?_⟩ <;> go_simp)
  have k0 : Four (w.heap.size + 2) w0 := by subst hw0; exact Four.alloc _ _ _ _ _ (by simp)
  have f0 : Fr w w0 (· = w.heap.size + 2) w0 := Fr.start hb0
  have z0 : w0.heap.size = w.heap.size + 3 := by subst hw0; simp
  clear hw0
  go_region_held3 (fun W => Fr w w0 (· = w.heap.size + 2) W) (first | assumption | exact Fr.drew (by assumption) | exact Fr.call (by assumption) (by assumption) | exact Fr.put4 f2 (by rfl) (by omega) _ _ _ _) (first
    | (go_at_call 119; (with_reducible refine (whole_Mul_calls _ _ p.n q.d _ (hpn.below (Fr.b (by assumption))) (hqd.below (Fr.b (by assumption))) HL1.out).mono ?_); rintro e w2 ⟨z1, x1, HZ1, rfl, hZ1, hb2⟩)
    | (go_at_call 119; (with_reducible refine (whole_Mul_calls _ _ q.n p.d _ (hqn.below (Fr.b (by assumption))) (hpd.below (Fr.b (by assumption))) HL2.out).mono ?_); rintro e w3 ⟨z2, x2, HZ2, rfl, hZ2, hb3⟩; replace hZ1 := hZ1.below hb3; have hl4 := HL4.out; rw [← HZ1.out, ← HZ2.out] at hl4)
    | (go_at_call 126; (with_reducible refine (whole_Add_calls _ _ z1 z2 _ hZ1.is hZ2.is hl4).mono ?_); rintro e w4 ⟨z3, x3, HZ3, rfl, hZ3, hb4⟩; obtain ⟨v5, rfl, r5, A5, c5, rfl, h5⟩ := hZ3; replace h5 := h5.mono (Nat.le_trans (Nat.le_of_eq z0.symm) (Fr.size (by assumption))))
    | (go_at_call 119; (with_reducible refine (whole_Mul_calls _ _ p.d q.d _ (hpd.below (Fr.b (by assumption))) (hqd.below (Fr.b (by assumption))) HL3.out).mono ?_); rintro e w5 ⟨z4, x4, HZ4, rfl, hZ4, hb5⟩; obtain ⟨v6, rfl, r6, A6, c6, rfl, h6⟩ := hZ4; replace h6 := h6.mono (Nat.le_trans (Nat.le_of_eq z0.symm) (Fr.size (by assumption))); have f2 := Fr.call (by assumption) hb5; obtain ⟨⟨x0, y0⟩, ⟨x1, y1⟩, ⟨x2, y2⟩, ⟨x3, y3⟩, g0, g1, g2, g3⟩ := (Fr.four f2 k0).cells))
  go_wp2
  have hQ : NQ (w.heap.size + 3) w5 (.agg #[.bool z3.neg, .slice A5 z3.ws.length c5, .bool z4.neg, .slice A6 z4.ws.length c6]) ⟨z3, z4⟩ := ⟨_, _, rfl, ⟨r5, A5, c5, rfl, h5.below hb5⟩, ⟨r6, A6, c6, rfl, h6⟩⟩
  exact bodyPost_ret (v := .agg #[.bool _, .slice _ _ _, .bool _, .slice _ _ _]) (by simp [results, Try.results125, go_sem, y0, y1, y2, y3]) rfl (postN_put4 hQ (by rw [HZ3.out, HZ1.out, HZ2.out, canZ_val, canZ_val]) HZ4.out f2.b (by omega) (by omega))
set_option maxHeartbeats 2000000 in
theorem does_sub_calls (va vb : Value) (p q : Qr) (w : World) (ha : IsQ w va p) (hb : IsQ w vb q) (hlen : p.n.ws.length + q.d.ws.length + (q.n.ws.length + p.d.ws.length) + (p.d.ws.length + q.d.ws.length) + 4 ≤ 35184372088832) :
    Calls Try.prog 127 #[va, vb] w (PostN w (p.n.val * q.d.val - q.n.val * p.d.val) (p.d.val * q.d.val)) := by
  obtain ⟨v1, v2, rfl, hn, hd⟩ := ha
  obtain ⟨v3, v4, rfl, hm, he⟩ := hb
  have hpn : IsZ w (.agg #[.bool p.n.neg, v1]) p.n := ⟨v1, rfl, hn⟩
  have hpd : IsZ w (.agg #[.bool p.d.neg, v2]) p.d := ⟨v2, rfl, hd⟩
  have hqn : IsZ w (.agg #[.bool q.n.neg, v3]) q.n := ⟨v3, rfl, hm⟩
  have hqd : IsZ w (.agg #[.bool q.d.neg, v4]) q.d := ⟨v4, rfl, he⟩
  have hl1 := mul_len hn.1 he.1
  have hl2 := mul_len hm.1 hd.1
  have HL1 : Hid (p.n.ws.length + q.d.ws.length ≤ 35184372088832) := Lib.hid (by omega)
  have HL2 : Hid (q.n.ws.length + p.d.ws.length ≤ 35184372088832) := Lib.hid (by omega)
  have HL3 : Hid (p.d.ws.length + q.d.ws.length ≤ 35184372088832) := Lib.hid (by omega)
  have HL4 : Hid ((canZ (p.n.val * q.d.val)).ws.length + (canZ (q.n.val * p.d.val)).ws.length + 2 ≤ 35184372088832) := Lib.hid (by omega)
  clear hlen hl1 hl2
  obtain ⟨r1, A1, c1, rfl, h1⟩ := hn
  obtain ⟨r2, A2, c2, rfl, h2⟩ := hd
  obtain ⟨r3, A3, c3, rfl, h3⟩ := hm
  obtain ⟨r4, A4, c4, rfl, h4⟩ := he
  clear h1 h2 h3 h4
  go_enter Try.func127, Try.ntmps127
  go_wp2
  generalize hw0 : World.alloc _ _ = w0
  have hb0 : Below w.heap.size w w0 := by subst hw0; exact bl_alloc2 (bl_alloc2 (bl_alloc _ _) _) _
  have t1 : Box4 w w0 (· = w.heap.size + 2) w.heap.size (.bool p.n.neg) (.slice A1 p.n.ws.length c1) (.bool p.d.neg) (.slice A2 p.d.ws.length c2) := Box4.mk (by omega) (by subst hw0; refine ⟨?_, ?_, ?_, ?_⟩ <;> go_simp)
  have t2 : Box4 w w0 (· = w.heap.size + 2) (w.heap.size + 1) (.bool q.n.neg) (.slice A3 q.n.ws.length c3) (.bool q.d.neg) (.slice A4 q.d.ws.length c4) := Box4.mk (by omega) (by subst hw0; refine ⟨?_, ?_, ?_, ?_⟩ <;> go_simp)
  have k0 : Four (w.heap.size + 2) w0 := by subst hw0; exact Four.alloc _ _ _ _ _ (by simp)
  have f0 : Fr w w0 (· = w.heap.size + 2) w0 := Fr.start hb0
  have z0 : w0.heap.size = w.heap.size + 3 := by subst hw0; simp
  clear hw0
  go_region_held3 (fun W => Fr w w0 (· = w.heap.size + 2) W) (first | assumption | exact Fr.drew (by assumption) | exact Fr.call (by assumption) (by assumption) | exact Fr.put4 f2 (by rfl) (by omega) _ _ _ _) (first
    | (go_at_call 119; (with_reducible refine (whole_Mul_calls _ _ p.n q.d _ (hpn.below (Fr.b (by assumption))) (hqd.below (Fr.b (by assumption))) HL1.out).mono ?_); rintro e w2 ⟨z1, x1, HZ1, rfl, hZ1, hb2⟩)
    | (go_at_call 119; (with_reducible refine (whole_Mul_calls _ _ q.n p.d _ (hqn.below (Fr.b (by assumption))) (hpd.below (Fr.b (by assumption))) HL2.out).mono ?_); rintro e w3 ⟨z2, x2, HZ2, rfl, hZ2, hb3⟩; replace hZ1 := hZ1.below hb3; have hl4 := HL4.out; rw [← HZ1.out, ← HZ2.out] at hl4)
    | (go_at_call 128; (with_reducible refine (whole_Sub_calls _ _ z1 z2 _ hZ1.is hZ2.is hl4).mono ?_); rintro e w4 ⟨z3, x3, HZ3, rfl, hZ3, hb4⟩; obtain ⟨v5, rfl, r5, A5, c5, rfl, h5⟩ := hZ3; replace h5 := h5.mono (Nat.le_trans (Nat.le_of_eq z0.symm) (Fr.size (by assumption))))
    | (go_at_call 119; (with_reducible refine (whole_Mul_calls _ _ p.d q.d _ (hpd.below (Fr.b (by assumption))) (hqd.below (Fr.b (by assumption))) HL3.out).mono ?_); rintro e w5 ⟨z4, x4, HZ4, rfl, hZ4, hb5⟩; obtain ⟨v6, rfl, r6, A6, c6, rfl, h6⟩ := hZ4; replace h6 := h6.mono (Nat.le_trans (Nat.le_of_eq z0.symm) (Fr.size (by assumption))); have f2 := Fr.call (by assumption) hb5; obtain ⟨⟨x0, y0⟩, ⟨x1, y1⟩, ⟨x2, y2⟩, ⟨x3, y3⟩, g0, g1, g2, g3⟩ := (Fr.four f2 k0).cells))
  go_wp2
  have hQ : NQ (w.heap.size + 3) w5 (.agg #[.bool z3.neg, .slice A5 z3.ws.length c5, .bool z4.neg, .slice A6 z4.ws.length c6]) ⟨z3, z4⟩ := ⟨_, _, rfl, ⟨r5, A5, c5, rfl, h5.below hb5⟩, ⟨r6, A6, c6, rfl, h6⟩⟩
  exact bodyPost_ret (v := .agg #[.bool _, .slice _ _ _, .bool _, .slice _ _ _]) (by simp [results, Try.results127, go_sem, y0, y1, y2, y3]) rfl (postN_put4 hQ (by rw [HZ3.out, HZ1.out, HZ2.out, canZ_val, canZ_val]) HZ4.out f2.b (by omega) (by omega))
set_option maxHeartbeats 2000000 in
theorem does_mul_calls (va vb : Value) (p q : Qr) (w : World) (ha : IsQ w va p) (hb : IsQ w vb q) (hlen : p.n.ws.length + q.n.ws.length + (p.d.ws.length + q.d.ws.length) + 4 ≤ 35184372088832) :
    Calls Try.prog 129 #[va, vb] w (PostN w (p.n.val * q.n.val) (p.d.val * q.d.val)) := by
  obtain ⟨v1, v2, rfl, hn, hd⟩ := ha
  obtain ⟨v3, v4, rfl, hm, he⟩ := hb
  have hpn : IsZ w (.agg #[.bool p.n.neg, v1]) p.n := ⟨v1, rfl, hn⟩
  have hpd : IsZ w (.agg #[.bool p.d.neg, v2]) p.d := ⟨v2, rfl, hd⟩
  have hqn : IsZ w (.agg #[.bool q.n.neg, v3]) q.n := ⟨v3, rfl, hm⟩
  have hqd : IsZ w (.agg #[.bool q.d.neg, v4]) q.d := ⟨v4, rfl, he⟩
  have HL1 : Hid (p.n.ws.length + q.n.ws.length ≤ 35184372088832) := Lib.hid (by omega)
  have HL3 : Hid (p.d.ws.length + q.d.ws.length ≤ 35184372088832) := Lib.hid (by omega)
  clear hlen
  obtain ⟨r1, A1, c1, rfl, h1⟩ := hn
  obtain ⟨r2, A2, c2, rfl, h2⟩ := hd
  obtain ⟨r3, A3, c3, rfl, h3⟩ := hm
  obtain ⟨r4, A4, c4, rfl, h4⟩ := he
  clear h1 h2 h3 h4
  go_enter Try.func129, Try.ntmps129
  go_wp2
  generalize hw0 : World.alloc _ _ = w0
  have hb0 : Below w.heap.size w w0 := by subst hw0; exact bl_alloc2 (bl_alloc2 (bl_alloc _ _) _) _
  have t1 : Box4 w w0 (· = w.heap.size + 2) w.heap.size (.bool p.n.neg) (.slice A1 p.n.ws.length c1) (.bool p.d.neg) (.slice A2 p.d.ws.length c2) := Box4.mk (by omega) (by subst hw0; refine ⟨?_, ?_, ?_, ?_⟩ <;> go_simp)
  have t2 : Box4 w w0 (· = w.heap.size + 2) (w.heap.size + 1) (.bool q.n.neg) (.slice A3 q.n.ws.length c3) (.bool q.d.neg) (.slice A4 q.d.ws.length c4) := Box4.mk (by omega) (by subst hw0; refine ⟨?_, ?_, ?_, ?_⟩ <;> go_simp)
  have k0 : Four (w.heap.size + 2) w0 := by subst hw0; exact Four.alloc _ _ _ _ _ (by simp)
  have f0 : Fr w w0 (· = w.heap.size + 2) w0 := Fr.start hb0
  have z0 : w0.heap.size = w.heap.size + 3 := by subst hw0; simp
  clear hw0
  go_region_held3 (fun W => Fr w w0 (· = w.heap.size + 2) W) (first | assumption | exact Fr.drew (by assumption) | exact Fr.call (by assumption) (by assumption) | exact Fr.put4 f2 (by rfl) (by omega) _ _ _ _) (first
    | (go_at_call 119; (with_reducible refine (whole_Mul_calls _ _ p.n q.n _ (hpn.below (Fr.b (by assumption))) (hqn.below (Fr.b (by assumption))) HL1.out).mono ?_); rintro e w4 ⟨z3, x3, HZ3, rfl, hZ3, hb4⟩; obtain ⟨v5, rfl, r5, A5, c5, rfl, h5⟩ := hZ3; replace h5 := h5.mono (Nat.le_trans (Nat.le_of_eq z0.symm) (Fr.size (by assumption))))
    | (go_at_call 119; (with_reducible refine (whole_Mul_calls _ _ p.d q.d _ (hpd.below (Fr.b (by assumption))) (hqd.below (Fr.b (by assumption))) HL3.out).mono ?_); rintro e w5 ⟨z4, x4, HZ4, rfl, hZ4, hb5⟩; obtain ⟨v6, rfl, r6, A6, c6, rfl, h6⟩ := hZ4; replace h6 := h6.mono (Nat.le_trans (Nat.le_of_eq z0.symm) (Fr.size (by assumption))); have f2 := Fr.call (by assumption) hb5; obtain ⟨⟨x0, y0⟩, ⟨x1, y1⟩, ⟨x2, y2⟩, ⟨x3, y3⟩, g0, g1, g2, g3⟩ := (Fr.four f2 k0).cells))
  go_wp2
  have hQ : NQ (w.heap.size + 3) w5 (.agg #[.bool z3.neg, .slice A5 z3.ws.length c5, .bool z4.neg, .slice A6 z4.ws.length c6]) ⟨z3, z4⟩ := ⟨_, _, rfl, ⟨r5, A5, c5, rfl, h5.below hb5⟩, ⟨r6, A6, c6, rfl, h6⟩⟩
  exact bodyPost_ret (v := .agg #[.bool _, .slice _ _ _, .bool _, .slice _ _ _]) (by simp [results, Try.results129, go_sem, y0, y1, y2, y3]) rfl (postN_put4 hQ HZ3.out HZ4.out f2.b (by omega) (by omega))
end Go.Proofs.Ytnmmgegnioihmaa
namespace Go.Proofs.Ytnmmgegnioihmaa
open Go.RowKit

theorem push_set (xs : Array Obj) (o o' : Obj) : (xs.push o).setIfInBounds xs.size o' = xs.push o' := by
  apply Array.ext
  · simp
  · intro i h1 h2
    simp only [Array.size_setIfInBounds, Array.size_push] at h1
    rw [Array.getElem_setIfInBounds (by simpa using h1)]
    split
    · rename_i h; subst h; simp
    · rename_i h
      have : i < xs.size := by omega
      rw [Array.getElem_push_lt this, Array.getElem_push_lt this]
theorem heap_new_at {W : World} {o : Obj} {k : Nat} (hk : k = W.heap.size) : (W.alloc o).heap[k]? = some o := by subst hk; exact heap_alloc_new _ _
theorem run_insert_new {P : Program} (w0 : World) (mty kt et : TypeId) (es : Array MapEntry) (clock : Nat) (s : ByteArray) (val : Value) (hm : P.underlying mty = some (.map kt et)) (hk : P.underlying kt = some .string)
    (hf : Instr.findNow .string (.string s) es.toList 0 = some none) :
    (Instr.mapUpdate mty (.map (some w0.heap.size)) (.string s) val).run P (w0.alloc (.map es clock)) = .ok () (w0.alloc (.map (es.push { key := .string s, val := val, born := clock }) (clock + 1))) := by
  have hb : (w0.alloc (.map es clock)).heap[w0.heap.size]? = some (.map es clock) := heap_alloc_new w0 _
  have hc : ∀ w, (Instr.checkKey false 10000 kt (.string s)).run P w = .ok () w := fun w => MapKept.run_checkKey (k := .string s) hk (by simp [MapKept.IsKey]) false 9999
  simp [Instr.mapUpdate, run_underlying hm, MapKept.run_getObj_map hb, hc, MapKept.run_findKey hk hf, MapKept.run_setObj_map _ hb, Result.andThen]
  have e : (w0.alloc (.map es clock)).heap.setIfInBounds w0.heap.size (Obj.map (es.push { key := Value.string s, val := val, born := clock }) (clock + 1)) = w0.heap.push (Obj.map (es.push { key := Value.string s, val := val, born := clock }) (clock + 1)) := push_set _ _ _
  rw [e]; rfl
theorem run_lookup_str {P : Program} (w : World) (mty kt et : TypeId) (r i : Nat) (es : Array MapEntry) (clock : Nat) (s : ByteArray) (v : Value) (hm : P.underlying mty = some (.map kt et)) (hk : P.underlying kt = some .string)
    (hb : w.heap[r]? = some (.map es clock)) (hf : Instr.findNow .string (.string s) es.toList 0 = some (some (i, v))) :
    (Instr.lookup mty (.map (some r)) (.string s) false).run P w = .ok v w := by
  have hc : ∀ b w, (Instr.checkKey b 10000 kt (.string s)).run P w = .ok () w := fun b w => MapKept.run_checkKey (k := .string s) hk (by simp [MapKept.IsKey]) b 9999
  simp [Instr.lookup, run_underlying hm, MapKept.run_getObj_map hb, hc, MapKept.run_findKey hk hf, Result.andThen]
set_option maxRecDepth 20000 in
set_option maxHeartbeats 2000000 in
theorem does_add_w (va vb : Value) (a b : Qr) (w : World) (ha : IsQ w va a) (hb : IsQ w vb b) (hlen : 8 * (a.S + b.S) + 8 ≤ 35184372088832) :
    Calls Try.prog 95 #[.string { data := #[97, 100, 100] }, va, vb] w (PostQ w (a.val + b.val) (a.S + b.S)) := by
  have hA := ha
  have hB := hb
  obtain ⟨v1, v2, rfl, hn, hd⟩ := ha
  obtain ⟨v3, v4, rfl, hm, he⟩ := hb
  have ka : a.Ok := ⟨hn.1, hd.1⟩
  have kb : b.Ok := ⟨hm.1, he.1⟩
  have HLa : Hid (a.S ≤ 35184372088832) := Lib.hid (by omega)
  have HLb : Hid (b.S ≤ 35184372088832) := Lib.hid (by omega)
  have HL := Lib.hid hlen
  clear hlen
  obtain ⟨r1, A1, c1, rfl, h1⟩ := hn
  obtain ⟨r2, A2, c2, rfl, h2⟩ := hd
  obtain ⟨r3, A3, c3, rfl, h3⟩ := hm
  obtain ⟨r4, A4, c4, rfl, h4⟩ := he
  have hmm := @run_makeMap Try.prog
  have hmu : ∀ (w0 : World) (es : Array MapEntry) (clock : Nat) (s : ByteArray) (val : Value) (hf : Instr.findNow .string (.string s) es.toList 0 = some none), (Instr.mapUpdate 128 (.map (some w0.heap.size)) (.string s) val).run Try.prog (w0.alloc (.map es clock)) = .ok () (w0.alloc (.map (es.push { key := .string s, val := val, born := clock }) (clock + 1))) :=
    fun w0 es clock s val hf => run_insert_new w0 _ 9 _ es clock s val Try.underlying128 Try.underlying9 hf
  have hi1 : ∀ (w0 : World) (r : Nat) (x0 : Value), r = w0.heap.size → (Instr.mapUpdate 128 (.map (some r)) (.string { data := #[97, 100, 100] }) x0).run Try.prog (w0.alloc (.map #[] 0)) = .ok () (w0.alloc (.map #[⟨.string { data := #[97, 100, 100] }, x0, 0⟩] 1)) := fun w0 r x0 hr => hr ▸ hmu w0 #[] 0 _ x0 rfl
  have hi2 : ∀ (w0 : World) (r : Nat) (x0 x1 : Value), r = w0.heap.size → (Instr.mapUpdate 128 (.map (some r)) (.string { data := #[115, 117, 98] }) x1).run Try.prog (w0.alloc (.map #[⟨.string { data := #[97, 100, 100] }, x0, 0⟩] 1)) = .ok () (w0.alloc (.map #[⟨.string { data := #[97, 100, 100] }, x0, 0⟩, ⟨.string { data := #[115, 117, 98] }, x1, 1⟩] 2)) := fun w0 r x0 x1 hr => hr ▸ hmu w0 #[⟨.string { data := #[97, 100, 100] }, x0, 0⟩] 1 _ x1 rfl
  have hi3 : ∀ (w0 : World) (r : Nat) (x0 x1 x2 : Value), r = w0.heap.size → (Instr.mapUpdate 128 (.map (some r)) (.string { data := #[109, 117, 108] }) x2).run Try.prog (w0.alloc (.map #[⟨.string { data := #[97, 100, 100] }, x0, 0⟩, ⟨.string { data := #[115, 117, 98] }, x1, 1⟩] 2)) = .ok () (w0.alloc (.map #[⟨.string { data := #[97, 100, 100] }, x0, 0⟩, ⟨.string { data := #[115, 117, 98] }, x1, 1⟩, ⟨.string { data := #[109, 117, 108] }, x2, 2⟩] 3)) := fun w0 r x0 x1 x2 hr => hr ▸ hmu w0 #[⟨.string { data := #[97, 100, 100] }, x0, 0⟩, ⟨.string { data := #[115, 117, 98] }, x1, 1⟩] 2 _ x2 rfl
  have hi4 : ∀ (w0 : World) (r : Nat) (x0 x1 x2 x3 : Value), r = w0.heap.size → (Instr.mapUpdate 128 (.map (some r)) (.string { data := #[100, 105, 118] }) x3).run Try.prog (w0.alloc (.map #[⟨.string { data := #[97, 100, 100] }, x0, 0⟩, ⟨.string { data := #[115, 117, 98] }, x1, 1⟩, ⟨.string { data := #[109, 117, 108] }, x2, 2⟩] 3)) = .ok () (w0.alloc (.map #[⟨.string { data := #[97, 100, 100] }, x0, 0⟩, ⟨.string { data := #[115, 117, 98] }, x1, 1⟩, ⟨.string { data := #[109, 117, 108] }, x2, 2⟩, ⟨.string { data := #[100, 105, 118] }, x3, 3⟩] 4)) := fun w0 r x0 x1 x2 x3 hr => hr ▸ hmu w0 #[⟨.string { data := #[97, 100, 100] }, x0, 0⟩, ⟨.string { data := #[115, 117, 98] }, x1, 1⟩, ⟨.string { data := #[109, 117, 108] }, x2, 2⟩] 3 _ x3 rfl
  clear hmu
  go_enter Try.func95, Try.ntmps95
  go_wp2
  generalize hw0 : World.alloc _ _ = w0
  have hb0 : Below w.heap.size w w0 := by subst hw0; exact bl_alloc2 (bl_alloc2 (bl_alloc2 (bl_alloc _ _) _) _) _
  have t1 : Box4 w w0 (· = w.heap.size + 2) w.heap.size (.bool a.n.neg) (.slice A1 a.n.ws.length c1) (.bool a.d.neg) (.slice A2 a.d.ws.length c2) := Box4.mk (by omega) (by subst hw0; refine ⟨?_, ?_, ?_, ?_⟩ <;> go_simp)
  have t2 : Box4 w w0 (· = w.heap.size + 2) (w.heap.size + 1) (.bool b.n.neg) (.slice A3 b.n.ws.length c3) (.bool b.d.neg) (.slice A4 b.d.ws.length c4) := Box4.mk (by omega) (by subst hw0; refine ⟨?_, ?_, ?_, ?_⟩ <;> go_simp)
  have k0 : Four (w.heap.size + 2) w0 := by subst hw0; exact (Four.alloc _ _ _ _ _ (by simp)).below (bl_alloc _ _)
  have z0 : w0.heap.size = w.heap.size + 4 := by subst hw0; simp
  have hmap : ∃ es clock, w0.heap[w.heap.size + 1 + 1 + 1]? = some (.map es clock) ∧ Instr.findNow .string (.string { data := #[97, 100, 100] }) es.toList 0 = some (some (0, .agg #[.func (.func 125) #[] #[]])) := by
    subst hw0; exact ⟨_, _, heap_new_at (by simp), rfl⟩
  obtain ⟨es, clock, hmp, hfn⟩ := hmap
  have hlk : ∀ W, Fr w w0 (· = w.heap.size + 2) W → (Instr.lookup 128 (.map (some (w.heap.size + 1 + 1 + 1))) (.string { data := #[97, 100, 100] }) false).run Try.prog W = .ok (.agg #[.func (.func 125) #[] #[]]) W := fun W hW =>
    run_lookup_str W _ 9 _ _ 0 _ _ _ _ Try.underlying128 Try.underlying9 ((hW.block _ (by omega) (by omega)).trans hmp) hfn
  clear hmp hfn
  have f0 : Fr w w0 (· = w.heap.size + 2) w0 := Fr.start hb0
  have hfd : ∀ (W : World), (Instr.field 127 (.agg #[.func (.func 125) #[] #[]]) 0).run Try.prog W = .ok (.func (.func 125) #[] #[]) W := fun W => rfl
  clear hw0 hmm hi1 hi2 hi3 hi4
  go_region_held3 (fun W => Fr w w0 (· = w.heap.size + 2) W) (first | assumption | exact Fr.drew (by assumption) | exact Fr.call (by assumption) (by assumption) | exact Fr.put4 f2 (by rfl) (by omega) _ _ _ _) (first
    | (go_at_call 117; (with_reducible refine (of_calls _ a _ (hA.below (Fr.b (by assumption))) HLa.out).mono ?_); rintro e w2 ⟨p, x1, HP, rfl, hP, hb2⟩)
    | (go_at_call 117; (with_reducible refine (of_calls _ b _ (hB.below (Fr.b (by assumption))) HLb.out).mono ?_); rintro e w3 ⟨q, x2, HQ, rfl, hQ, hb3⟩; replace hP := hP.below hb3
       have HK := Lib.hid (add_ok HP.out HQ.out ka kb)
       have hl4 : p.n.ws.length + q.d.ws.length + (q.n.ws.length + p.d.ws.length) + (p.d.ws.length + q.d.ws.length) + 4 ≤ 35184372088832 := by have := HP.out.ln; have := HP.out.ld; have := HQ.out.ln; have := HQ.out.ld; have := HL.out; omega)
    | (go_at_call 125; (with_reducible refine (does_add_calls _ _ p q _ hP hQ hl4).mono ?_); rintro e w4 ⟨z3, z4, x3, HZ3, HZ4, rfl, hN, hb4⟩
       have hz0 : 0 < (⟨z3, z4⟩ : Qr).d.val := by show 0 < z4.val; rw [HZ4.out, canZ_val]; exact HK.out.pos
       have hz1 : Rat.divInt (⟨z3, z4⟩ : Qr).n.val (⟨z3, z4⟩ : Qr).d.val = a.val + b.val := by show Rat.divInt z3.val z4.val = _; rw [HZ3.out, HZ4.out, canZ_val, canZ_val]; exact HK.out.val
       have hz2 : 2 * ((⟨z3, z4⟩ : Qr).n.ws.length + (⟨z3, z4⟩ : Qr).d.ws.length) + 4 ≤ 35184372088832 := by show 2 * (z3.ws.length + z4.ws.length) + 4 ≤ _; rw [HZ3.out, HZ4.out]; have := HK.out.ln; have := HK.out.ld; have := HL.out; omega)
    | (go_at_call 131; (with_reducible refine (least_calls _ ⟨z3, z4⟩ (a.val + b.val) (a.S + b.S) _ hN.is hz0 hz1 HK.out.S hz2).mono ?_); rintro e w5 ⟨r, x5, HR, hRS, rfl, hR, hb5⟩; replace hR := hR.mono (Nat.le_trans (Nat.le_of_eq z0.symm) (Fr.size (by assumption))); obtain ⟨v5, v6, rfl, ⟨r5, A5, c5, rfl, h5⟩, ⟨r6, A6, c6, rfl, h6⟩⟩ := hR; have f2 := Fr.call (by assumption) hb5; obtain ⟨⟨x0, y0⟩, ⟨x1, y1⟩, ⟨x2, y2⟩, ⟨x3, y3⟩, g0, g1, g2, g3⟩ := (Fr.four f2 k0).cells))
  all_goals go_wp2
  all_goals exact bodyPost_ret (v := .agg #[.bool _, .slice _ _ _, .bool _, .slice _ _ _]) (by simp [results, Try.results95, go_sem, y0, y1, y2, y3]) rfl (postQ_put4 (n1 := w.heap.size + 4) ⟨_, _, rfl, ⟨r5, A5, c5, rfl, h5⟩, ⟨r6, A6, c6, rfl, h6⟩⟩ HR.out hRS f2.b (by omega) (by omega))
set_option maxRecDepth 20000 in
set_option maxHeartbeats 2000000 in
theorem does_sub_w (va vb : Value) (a b : Qr) (w : World) (ha : IsQ w va a) (hb : IsQ w vb b) (hlen : 8 * (a.S + b.S) + 8 ≤ 35184372088832) :
    Calls Try.prog 95 #[.string { data := #[115, 117, 98] }, va, vb] w (PostQ w (a.val - b.val) (a.S + b.S)) := by
  have hA := ha
  have hB := hb
  obtain ⟨v1, v2, rfl, hn, hd⟩ := ha
  obtain ⟨v3, v4, rfl, hm, he⟩ := hb
  have ka : a.Ok := ⟨hn.1, hd.1⟩
  have kb : b.Ok := ⟨hm.1, he.1⟩
  have HLa : Hid (a.S ≤ 35184372088832) := Lib.hid (by omega)
  have HLb : Hid (b.S ≤ 35184372088832) := Lib.hid (by omega)
  have HL := Lib.hid hlen
  clear hlen
  obtain ⟨r1, A1, c1, rfl, h1⟩ := hn
  obtain ⟨r2, A2, c2, rfl, h2⟩ := hd
  obtain ⟨r3, A3, c3, rfl, h3⟩ := hm
  obtain ⟨r4, A4, c4, rfl, h4⟩ := he
  have hmm := @run_makeMap Try.prog
  have hmu : ∀ (w0 : World) (es : Array MapEntry) (clock : Nat) (s : ByteArray) (val : Value) (hf : Instr.findNow .string (.string s) es.toList 0 = some none), (Instr.mapUpdate 128 (.map (some w0.heap.size)) (.string s) val).run Try.prog (w0.alloc (.map es clock)) = .ok () (w0.alloc (.map (es.push { key := .string s, val := val, born := clock }) (clock + 1))) :=
    fun w0 es clock s val hf => run_insert_new w0 _ 9 _ es clock s val Try.underlying128 Try.underlying9 hf
  have hi1 : ∀ (w0 : World) (r : Nat) (x0 : Value), r = w0.heap.size → (Instr.mapUpdate 128 (.map (some r)) (.string { data := #[97, 100, 100] }) x0).run Try.prog (w0.alloc (.map #[] 0)) = .ok () (w0.alloc (.map #[⟨.string { data := #[97, 100, 100] }, x0, 0⟩] 1)) := fun w0 r x0 hr => hr ▸ hmu w0 #[] 0 _ x0 rfl
  have hi2 : ∀ (w0 : World) (r : Nat) (x0 x1 : Value), r = w0.heap.size → (Instr.mapUpdate 128 (.map (some r)) (.string { data := #[115, 117, 98] }) x1).run Try.prog (w0.alloc (.map #[⟨.string { data := #[97, 100, 100] }, x0, 0⟩] 1)) = .ok () (w0.alloc (.map #[⟨.string { data := #[97, 100, 100] }, x0, 0⟩, ⟨.string { data := #[115, 117, 98] }, x1, 1⟩] 2)) := fun w0 r x0 x1 hr => hr ▸ hmu w0 #[⟨.string { data := #[97, 100, 100] }, x0, 0⟩] 1 _ x1 rfl
  have hi3 : ∀ (w0 : World) (r : Nat) (x0 x1 x2 : Value), r = w0.heap.size → (Instr.mapUpdate 128 (.map (some r)) (.string { data := #[109, 117, 108] }) x2).run Try.prog (w0.alloc (.map #[⟨.string { data := #[97, 100, 100] }, x0, 0⟩, ⟨.string { data := #[115, 117, 98] }, x1, 1⟩] 2)) = .ok () (w0.alloc (.map #[⟨.string { data := #[97, 100, 100] }, x0, 0⟩, ⟨.string { data := #[115, 117, 98] }, x1, 1⟩, ⟨.string { data := #[109, 117, 108] }, x2, 2⟩] 3)) := fun w0 r x0 x1 x2 hr => hr ▸ hmu w0 #[⟨.string { data := #[97, 100, 100] }, x0, 0⟩, ⟨.string { data := #[115, 117, 98] }, x1, 1⟩] 2 _ x2 rfl
  have hi4 : ∀ (w0 : World) (r : Nat) (x0 x1 x2 x3 : Value), r = w0.heap.size → (Instr.mapUpdate 128 (.map (some r)) (.string { data := #[100, 105, 118] }) x3).run Try.prog (w0.alloc (.map #[⟨.string { data := #[97, 100, 100] }, x0, 0⟩, ⟨.string { data := #[115, 117, 98] }, x1, 1⟩, ⟨.string { data := #[109, 117, 108] }, x2, 2⟩] 3)) = .ok () (w0.alloc (.map #[⟨.string { data := #[97, 100, 100] }, x0, 0⟩, ⟨.string { data := #[115, 117, 98] }, x1, 1⟩, ⟨.string { data := #[109, 117, 108] }, x2, 2⟩, ⟨.string { data := #[100, 105, 118] }, x3, 3⟩] 4)) := fun w0 r x0 x1 x2 x3 hr => hr ▸ hmu w0 #[⟨.string { data := #[97, 100, 100] }, x0, 0⟩, ⟨.string { data := #[115, 117, 98] }, x1, 1⟩, ⟨.string { data := #[109, 117, 108] }, x2, 2⟩] 3 _ x3 rfl
  clear hmu
  go_enter Try.func95, Try.ntmps95
  go_wp2
  generalize hw0 : World.alloc _ _ = w0
  have hb0 : Below w.heap.size w w0 := by subst hw0; exact bl_alloc2 (bl_alloc2 (bl_alloc2 (bl_alloc _ _) _) _) _
  have t1 : Box4 w w0 (· = w.heap.size + 2) w.heap.size (.bool a.n.neg) (.slice A1 a.n.ws.length c1) (.bool a.d.neg) (.slice A2 a.d.ws.length c2) := Box4.mk (by omega) (by subst hw0; refine ⟨?_, ?_, ?_, ?_⟩ <;> go_simp)
  have t2 : Box4 w w0 (· = w.heap.size + 2) (w.heap.size + 1) (.bool b.n.neg) (.slice A3 b.n.ws.length c3) (.bool b.d.neg) (.slice A4 b.d.ws.length c4) := Box4.mk (by omega) (by subst hw0; refine ⟨?_, ?_, ?_, ?_⟩ <;> go_simp)
  have k0 : Four (w.heap.size + 2) w0 := by subst hw0; exact (Four.alloc _ _ _ _ _ (by simp)).below (bl_alloc _ _)
  have z0 : w0.heap.size = w.heap.size + 4 := by subst hw0; simp
  have hmap : ∃ es clock, w0.heap[w.heap.size + 1 + 1 + 1]? = some (.map es clock) ∧ Instr.findNow .string (.string { data := #[115, 117, 98] }) es.toList 0 = some (some (1, .agg #[.func (.func 127) #[] #[]])) := by
    subst hw0; exact ⟨_, _, heap_new_at (by simp), rfl⟩
  obtain ⟨es, clock, hmp, hfn⟩ := hmap
  have hlk : ∀ W, Fr w w0 (· = w.heap.size + 2) W → (Instr.lookup 128 (.map (some (w.heap.size + 1 + 1 + 1))) (.string { data := #[115, 117, 98] }) false).run Try.prog W = .ok (.agg #[.func (.func 127) #[] #[]]) W := fun W hW =>
    run_lookup_str W _ 9 _ _ 1 _ _ _ _ Try.underlying128 Try.underlying9 ((hW.block _ (by omega) (by omega)).trans hmp) hfn
  clear hmp hfn
  have f0 : Fr w w0 (· = w.heap.size + 2) w0 := Fr.start hb0
  have hfd : ∀ (W : World), (Instr.field 127 (.agg #[.func (.func 127) #[] #[]]) 0).run Try.prog W = .ok (.func (.func 127) #[] #[]) W := fun W => rfl
  clear hw0 hmm hi1 hi2 hi3 hi4
  go_region_held3 (fun W => Fr w w0 (· = w.heap.size + 2) W) (first | assumption | exact Fr.drew (by assumption) | exact Fr.call (by assumption) (by assumption) | exact Fr.put4 f2 (by rfl) (by omega) _ _ _ _) (first
    | (go_at_call 117; (with_reducible refine (of_calls _ a _ (hA.below (Fr.b (by assumption))) HLa.out).mono ?_); rintro e w2 ⟨p, x1, HP, rfl, hP, hb2⟩)
    | (go_at_call 117; (with_reducible refine (of_calls _ b _ (hB.below (Fr.b (by assumption))) HLb.out).mono ?_); rintro e w3 ⟨q, x2, HQ, rfl, hQ, hb3⟩; replace hP := hP.below hb3
       have HK := Lib.hid (sub_ok HP.out HQ.out ka kb)
       have hl4 : p.n.ws.length + q.d.ws.length + (q.n.ws.length + p.d.ws.length) + (p.d.ws.length + q.d.ws.length) + 4 ≤ 35184372088832 := by have := HP.out.ln; have := HP.out.ld; have := HQ.out.ln; have := HQ.out.ld; have := HL.out; omega)
    | (go_at_call 127; (with_reducible refine (does_sub_calls _ _ p q _ hP hQ hl4).mono ?_); rintro e w4 ⟨z3, z4, x3, HZ3, HZ4, rfl, hN, hb4⟩
       have hz0 : 0 < (⟨z3, z4⟩ : Qr).d.val := by show 0 < z4.val; rw [HZ4.out, canZ_val]; exact HK.out.pos
       have hz1 : Rat.divInt (⟨z3, z4⟩ : Qr).n.val (⟨z3, z4⟩ : Qr).d.val = a.val - b.val := by show Rat.divInt z3.val z4.val = _; rw [HZ3.out, HZ4.out, canZ_val, canZ_val]; exact HK.out.val
       have hz2 : 2 * ((⟨z3, z4⟩ : Qr).n.ws.length + (⟨z3, z4⟩ : Qr).d.ws.length) + 4 ≤ 35184372088832 := by show 2 * (z3.ws.length + z4.ws.length) + 4 ≤ _; rw [HZ3.out, HZ4.out]; have := HK.out.ln; have := HK.out.ld; have := HL.out; omega)
    | (go_at_call 131; (with_reducible refine (least_calls _ ⟨z3, z4⟩ (a.val - b.val) (a.S + b.S) _ hN.is hz0 hz1 HK.out.S hz2).mono ?_); rintro e w5 ⟨r, x5, HR, hRS, rfl, hR, hb5⟩; replace hR := hR.mono (Nat.le_trans (Nat.le_of_eq z0.symm) (Fr.size (by assumption))); obtain ⟨v5, v6, rfl, ⟨r5, A5, c5, rfl, h5⟩, ⟨r6, A6, c6, rfl, h6⟩⟩ := hR; have f2 := Fr.call (by assumption) hb5; obtain ⟨⟨x0, y0⟩, ⟨x1, y1⟩, ⟨x2, y2⟩, ⟨x3, y3⟩, g0, g1, g2, g3⟩ := (Fr.four f2 k0).cells))
  all_goals go_wp2
  all_goals exact bodyPost_ret (v := .agg #[.bool _, .slice _ _ _, .bool _, .slice _ _ _]) (by simp [results, Try.results95, go_sem, y0, y1, y2, y3]) rfl (postQ_put4 (n1 := w.heap.size + 4) ⟨_, _, rfl, ⟨r5, A5, c5, rfl, h5⟩, ⟨r6, A6, c6, rfl, h6⟩⟩ HR.out hRS f2.b (by omega) (by omega))
set_option maxRecDepth 20000 in
set_option maxHeartbeats 2000000 in
theorem does_mul_w (va vb : Value) (a b : Qr) (w : World) (ha : IsQ w va a) (hb : IsQ w vb b) (hlen : 8 * (a.S + b.S) + 8 ≤ 35184372088832) :
    Calls Try.prog 95 #[.string { data := #[109, 117, 108] }, va, vb] w (PostQ w (a.val * b.val) (a.S + b.S)) := by
  have hA := ha
  have hB := hb
  obtain ⟨v1, v2, rfl, hn, hd⟩ := ha
  obtain ⟨v3, v4, rfl, hm, he⟩ := hb
  have ka : a.Ok := ⟨hn.1, hd.1⟩
  have kb : b.Ok := ⟨hm.1, he.1⟩
  have HLa : Hid (a.S ≤ 35184372088832) := Lib.hid (by omega)
  have HLb : Hid (b.S ≤ 35184372088832) := Lib.hid (by omega)
  have HL := Lib.hid hlen
  clear hlen
  obtain ⟨r1, A1, c1, rfl, h1⟩ := hn
  obtain ⟨r2, A2, c2, rfl, h2⟩ := hd
  obtain ⟨r3, A3, c3, rfl, h3⟩ := hm
  obtain ⟨r4, A4, c4, rfl, h4⟩ := he
  have hmm := @run_makeMap Try.prog
  have hmu : ∀ (w0 : World) (es : Array MapEntry) (clock : Nat) (s : ByteArray) (val : Value) (hf : Instr.findNow .string (.string s) es.toList 0 = some none), (Instr.mapUpdate 128 (.map (some w0.heap.size)) (.string s) val).run Try.prog (w0.alloc (.map es clock)) = .ok () (w0.alloc (.map (es.push { key := .string s, val := val, born := clock }) (clock + 1))) :=
    fun w0 es clock s val hf => run_insert_new w0 _ 9 _ es clock s val Try.underlying128 Try.underlying9 hf
  have hi1 : ∀ (w0 : World) (r : Nat) (x0 : Value), r = w0.heap.size → (Instr.mapUpdate 128 (.map (some r)) (.string { data := #[97, 100, 100] }) x0).run Try.prog (w0.alloc (.map #[] 0)) = .ok () (w0.alloc (.map #[⟨.string { data := #[97, 100, 100] }, x0, 0⟩] 1)) := fun w0 r x0 hr => hr ▸ hmu w0 #[] 0 _ x0 rfl
  have hi2 : ∀ (w0 : World) (r : Nat) (x0 x1 : Value), r = w0.heap.size → (Instr.mapUpdate 128 (.map (some r)) (.string { data := #[115, 117, 98] }) x1).run Try.prog (w0.alloc (.map #[⟨.string { data := #[97, 100, 100] }, x0, 0⟩] 1)) = .ok () (w0.alloc (.map #[⟨.string { data := #[97, 100, 100] }, x0, 0⟩, ⟨.string { data := #[115, 117, 98] }, x1, 1⟩] 2)) := fun w0 r x0 x1 hr => hr ▸ hmu w0 #[⟨.string { data := #[97, 100, 100] }, x0, 0⟩] 1 _ x1 rfl
  have hi3 : ∀ (w0 : World) (r : Nat) (x0 x1 x2 : Value), r = w0.heap.size → (Instr.mapUpdate 128 (.map (some r)) (.string { data := #[109, 117, 108] }) x2).run Try.prog (w0.alloc (.map #[⟨.string { data := #[97, 100, 100] }, x0, 0⟩, ⟨.string { data := #[115, 117, 98] }, x1, 1⟩] 2)) = .ok () (w0.alloc (.map #[⟨.string { data := #[97, 100, 100] }, x0, 0⟩, ⟨.string { data := #[115, 117, 98] }, x1, 1⟩, ⟨.string { data := #[109, 117, 108] }, x2, 2⟩] 3)) := fun w0 r x0 x1 x2 hr => hr ▸ hmu w0 #[⟨.string { data := #[97, 100, 100] }, x0, 0⟩, ⟨.string { data := #[115, 117, 98] }, x1, 1⟩] 2 _ x2 rfl
  have hi4 : ∀ (w0 : World) (r : Nat) (x0 x1 x2 x3 : Value), r = w0.heap.size → (Instr.mapUpdate 128 (.map (some r)) (.string { data := #[100, 105, 118] }) x3).run Try.prog (w0.alloc (.map #[⟨.string { data := #[97, 100, 100] }, x0, 0⟩, ⟨.string { data := #[115, 117, 98] }, x1, 1⟩, ⟨.string { data := #[109, 117, 108] }, x2, 2⟩] 3)) = .ok () (w0.alloc (.map #[⟨.string { data := #[97, 100, 100] }, x0, 0⟩, ⟨.string { data := #[115, 117, 98] }, x1, 1⟩, ⟨.string { data := #[109, 117, 108] }, x2, 2⟩, ⟨.string { data := #[100, 105, 118] }, x3, 3⟩] 4)) := fun w0 r x0 x1 x2 x3 hr => hr ▸ hmu w0 #[⟨.string { data := #[97, 100, 100] }, x0, 0⟩, ⟨.string { data := #[115, 117, 98] }, x1, 1⟩, ⟨.string { data := #[109, 117, 108] }, x2, 2⟩] 3 _ x3 rfl
  clear hmu
  go_enter Try.func95, Try.ntmps95
  go_wp2
  generalize hw0 : World.alloc _ _ = w0
  have hb0 : Below w.heap.size w w0 := by subst hw0; exact bl_alloc2 (bl_alloc2 (bl_alloc2 (bl_alloc _ _) _) _) _
  have t1 : Box4 w w0 (· = w.heap.size + 2) w.heap.size (.bool a.n.neg) (.slice A1 a.n.ws.length c1) (.bool a.d.neg) (.slice A2 a.d.ws.length c2) := Box4.mk (by omega) (by subst hw0; refine ⟨?_, ?_, ?_, ?_⟩ <;> go_simp)
  have t2 : Box4 w w0 (· = w.heap.size + 2) (w.heap.size + 1) (.bool b.n.neg) (.slice A3 b.n.ws.length c3) (.bool b.d.neg) (.slice A4 b.d.ws.length c4) := Box4.mk (by omega) (by subst hw0; refine ⟨?_, ?_, ?_, ?_⟩ <;> go_simp)
  have k0 : Four (w.heap.size + 2) w0 := by subst hw0; exact (Four.alloc _ _ _ _ _ (by simp)).below (bl_alloc _ _)
  have z0 : w0.heap.size = w.heap.size + 4 := by subst hw0; simp
  have hmap : ∃ es clock, w0.heap[w.heap.size + 1 + 1 + 1]? = some (.map es clock) ∧ Instr.findNow .string (.string { data := #[109, 117, 108] }) es.toList 0 = some (some (2, .agg #[.func (.func 129) #[] #[]])) := by
    subst hw0; exact ⟨_, _, heap_new_at (by simp), rfl⟩
  obtain ⟨es, clock, hmp, hfn⟩ := hmap
  have hlk : ∀ W, Fr w w0 (· = w.heap.size + 2) W → (Instr.lookup 128 (.map (some (w.heap.size + 1 + 1 + 1))) (.string { data := #[109, 117, 108] }) false).run Try.prog W = .ok (.agg #[.func (.func 129) #[] #[]]) W := fun W hW =>
    run_lookup_str W _ 9 _ _ 2 _ _ _ _ Try.underlying128 Try.underlying9 ((hW.block _ (by omega) (by omega)).trans hmp) hfn
  clear hmp hfn
  have f0 : Fr w w0 (· = w.heap.size + 2) w0 := Fr.start hb0
  have hfd : ∀ (W : World), (Instr.field 127 (.agg #[.func (.func 129) #[] #[]]) 0).run Try.prog W = .ok (.func (.func 129) #[] #[]) W := fun W => rfl
  clear hw0 hmm hi1 hi2 hi3 hi4
  go_region_held3 (fun W => Fr w w0 (· = w.heap.size + 2) W) (first | assumption | exact Fr.drew (by assumption) | exact Fr.call (by assumption) (by assumption) | exact Fr.put4 f2 (by rfl) (by omega) _ _ _ _) (first
    | (go_at_call 117; (with_reducible refine (of_calls _ a _ (hA.below (Fr.b (by assumption))) HLa.out).mono ?_); rintro e w2 ⟨p, x1, HP, rfl, hP, hb2⟩)
    | (go_at_call 117; (with_reducible refine (of_calls _ b _ (hB.below (Fr.b (by assumption))) HLb.out).mono ?_); rintro e w3 ⟨q, x2, HQ, rfl, hQ, hb3⟩; replace hP := hP.below hb3
       have HK := Lib.hid (mul_ok HP.out HQ.out ka kb)
       have hl4 : p.n.ws.length + q.n.ws.length + (p.d.ws.length + q.d.ws.length) + 4 ≤ 35184372088832 := by have := HP.out.ln; have := HP.out.ld; have := HQ.out.ln; have := HQ.out.ld; have := HL.out; omega)
    | (go_at_call 129; (with_reducible refine (does_mul_calls _ _ p q _ hP hQ hl4).mono ?_); rintro e w4 ⟨z3, z4, x3, HZ3, HZ4, rfl, hN, hb4⟩
       have hz0 : 0 < (⟨z3, z4⟩ : Qr).d.val := by show 0 < z4.val; rw [HZ4.out, canZ_val]; exact HK.out.pos
       have hz1 : Rat.divInt (⟨z3, z4⟩ : Qr).n.val (⟨z3, z4⟩ : Qr).d.val = a.val * b.val := by show Rat.divInt z3.val z4.val = _; rw [HZ3.out, HZ4.out, canZ_val, canZ_val]; exact HK.out.val
       have hz2 : 2 * ((⟨z3, z4⟩ : Qr).n.ws.length + (⟨z3, z4⟩ : Qr).d.ws.length) + 4 ≤ 35184372088832 := by show 2 * (z3.ws.length + z4.ws.length) + 4 ≤ _; rw [HZ3.out, HZ4.out]; have := HK.out.ln; have := HK.out.ld; have := HL.out; omega)
    | (go_at_call 131; (with_reducible refine (least_calls _ ⟨z3, z4⟩ (a.val * b.val) (a.S + b.S) _ hN.is hz0 hz1 HK.out.S hz2).mono ?_); rintro e w5 ⟨r, x5, HR, hRS, rfl, hR, hb5⟩; replace hR := hR.mono (Nat.le_trans (Nat.le_of_eq z0.symm) (Fr.size (by assumption))); obtain ⟨v5, v6, rfl, ⟨r5, A5, c5, rfl, h5⟩, ⟨r6, A6, c6, rfl, h6⟩⟩ := hR; have f2 := Fr.call (by assumption) hb5; obtain ⟨⟨x0, y0⟩, ⟨x1, y1⟩, ⟨x2, y2⟩, ⟨x3, y3⟩, g0, g1, g2, g3⟩ := (Fr.four f2 k0).cells))
  all_goals go_wp2
  all_goals exact bodyPost_ret (v := .agg #[.bool _, .slice _ _ _, .bool _, .slice _ _ _]) (by simp [results, Try.results95, go_sem, y0, y1, y2, y3]) rfl (postQ_put4 (n1 := w.heap.size + 4) ⟨_, _, rfl, ⟨r5, A5, c5, rfl, h5⟩, ⟨r6, A6, c6, rfl, h6⟩⟩ HR.out hRS f2.b (by omega) (by omega))
end Go.Proofs.Ytnmmgegnioihmaa
namespace Go.Proofs.Ytnmmgegnioihmaa
open Go.RowKit

theorem IsQ.slices {w : World} {v : Value} {q : Qr} (h : IsQ w v q) : ∃ A c B d, v = .agg #[.bool q.n.neg, .slice A q.n.ws.length c, .bool q.d.neg, .slice B q.d.ws.length d] := by
  obtain ⟨v1, v2, rfl, ⟨_, A, c, rfl, _⟩, ⟨_, B, d, rfl, _⟩⟩ := h
  exact ⟨A, c, B, d, rfl⟩
def zeroQ : Qr := ⟨⟨false, []⟩, ⟨false, []⟩⟩
theorem isZero (w : World) : IsQ w (.agg #[.bool false, .slice none 0 0, .bool false, .slice none 0 0]) zeroQ := ⟨_, _, rfl, ⟨Rng.nil, none, 0, rfl, Row.nil _ _⟩, ⟨Rng.nil, none, 0, rfl, Row.nil _ _⟩⟩
theorem zeroQ_val : zeroQ.val = 0 := by
  unfold Qr.val Qr.dv zeroQ Zr.val val
  simp
theorem zeroQ_S : zeroQ.S = 1 := rfl
set_option maxHeartbeats 1000000 in
theorem frac_Add_calls (va vb : Value) (a b : Qr) (w : World) (ha : IsQ w va a) (hb : IsQ w vb b) (hlen : 8 * (a.S + b.S) + 8 ≤ 35184372088832) :
    Calls Try.prog 38 #[va, vb] w (PostQ w (a.val + b.val) (a.S + b.S)) := by
  have hA := ha
  have hB := hb
  obtain ⟨A1, c1, A2, c2, rfl⟩ := ha.slices
  obtain ⟨A3, c3, A4, c4, rfl⟩ := hb.slices
  have HL := Lib.hid hlen
  clear hlen ha hb
  go_enter Try.func38, Try.ntmps38
  go_wp2_with (go_at_call 95; generalize hw0 : World.alloc _ _ = w0
               have hb0 : Below w.heap.size w w0 := by subst hw0; exact bl_alloc2 (bl_alloc2 (bl_alloc _ _) _) _
               have k0 : Four (w.heap.size + 2) w0 := by subst hw0; exact Four.alloc _ _ _ _ _ (by simp)
               have z0 : w0.heap.size = w.heap.size + 3 := by subst hw0; simp
               clear hw0
               refine (does_add_w _ _ a b _ (hA.below hb0) (hB.below hb0) HL.out).mono ?_; rintro e w1 ⟨q, v, HQ, hS, rfl, hN, hb1⟩
               obtain ⟨v5, v6, rfl, ⟨r5, A5, c5, rfl, h5⟩, ⟨r6, A6, c6, rfl, h6⟩⟩ := hN
               obtain ⟨⟨x0, y0⟩, ⟨x1, y1⟩, ⟨x2, y2⟩, ⟨x3, y3⟩, g0, g1, g2, g3⟩ := (k0.below hb1).cells)
  exact bodyPost_ret (v := .agg #[.bool _, .slice _ _ _, .bool _, .slice _ _ _]) (by simp [results, Try.results38, go_sem, y0, y1, y2, y3]) rfl (postQ_put4 (n1 := w0.heap.size) ⟨_, _, rfl, ⟨r5, A5, c5, rfl, h5⟩, ⟨r6, A6, c6, rfl, h6⟩⟩ HQ.out hS (bl_trans hb0 hb1) (by omega) (by omega))
set_option maxHeartbeats 1000000 in
theorem frac_Sub_calls (va vb : Value) (a b : Qr) (w : World) (ha : IsQ w va a) (hb : IsQ w vb b) (hlen : 8 * (a.S + b.S) + 8 ≤ 35184372088832) :
    Calls Try.prog 37 #[va, vb] w (PostQ w (a.val - b.val) (a.S + b.S)) := by
  have hA := ha
  have hB := hb
  obtain ⟨A1, c1, A2, c2, rfl⟩ := ha.slices
  obtain ⟨A3, c3, A4, c4, rfl⟩ := hb.slices
  have HL := Lib.hid hlen
  clear hlen ha hb
  go_enter Try.func37, Try.ntmps37
  go_wp2_with (go_at_call 95; generalize hw0 : World.alloc _ _ = w0
               have hb0 : Below w.heap.size w w0 := by subst hw0; exact bl_alloc2 (bl_alloc2 (bl_alloc _ _) _) _
               have k0 : Four (w.heap.size + 2) w0 := by subst hw0; exact Four.alloc _ _ _ _ _ (by simp)
               have z0 : w0.heap.size = w.heap.size + 3 := by subst hw0; simp
               clear hw0
               refine (does_sub_w _ _ a b _ (hA.below hb0) (hB.below hb0) HL.out).mono ?_; rintro e w1 ⟨q, v, HQ, hS, rfl, hN, hb1⟩
               obtain ⟨v5, v6, rfl, ⟨r5, A5, c5, rfl, h5⟩, ⟨r6, A6, c6, rfl, h6⟩⟩ := hN
               obtain ⟨⟨x0, y0⟩, ⟨x1, y1⟩, ⟨x2, y2⟩, ⟨x3, y3⟩, g0, g1, g2, g3⟩ := (k0.below hb1).cells)
  exact bodyPost_ret (v := .agg #[.bool _, .slice _ _ _, .bool _, .slice _ _ _]) (by simp [results, Try.results37, go_sem, y0, y1, y2, y3]) rfl (postQ_put4 (n1 := w0.heap.size) ⟨_, _, rfl, ⟨r5, A5, c5, rfl, h5⟩, ⟨r6, A6, c6, rfl, h6⟩⟩ HQ.out hS (bl_trans hb0 hb1) (by omega) (by omega))
set_option maxHeartbeats 1000000 in
theorem frac_Mul_calls (va vb : Value) (a b : Qr) (w : World) (ha : IsQ w va a) (hb : IsQ w vb b) (hlen : 8 * (a.S + b.S) + 8 ≤ 35184372088832) :
    Calls Try.prog 35 #[va, vb] w (PostQ w (a.val * b.val) (a.S + b.S)) := by
  have hA := ha
  have hB := hb
  obtain ⟨A1, c1, A2, c2, rfl⟩ := ha.slices
  obtain ⟨A3, c3, A4, c4, rfl⟩ := hb.slices
  have HL := Lib.hid hlen
  clear hlen ha hb
  go_enter Try.func35, Try.ntmps35
  go_wp2_with (go_at_call 95; generalize hw0 : World.alloc _ _ = w0
               have hb0 : Below w.heap.size w w0 := by subst hw0; exact bl_alloc2 (bl_alloc2 (bl_alloc _ _) _) _
               have k0 : Four (w.heap.size + 2) w0 := by subst hw0; exact Four.alloc _ _ _ _ _ (by simp)
               have z0 : w0.heap.size = w.heap.size + 3 := by subst hw0; simp
               clear hw0
               refine (does_mul_w _ _ a b _ (hA.below hb0) (hB.below hb0) HL.out).mono ?_; rintro e w1 ⟨q, v, HQ, hS, rfl, hN, hb1⟩
               obtain ⟨v5, v6, rfl, ⟨r5, A5, c5, rfl, h5⟩, ⟨r6, A6, c6, rfl, h6⟩⟩ := hN
               obtain ⟨⟨x0, y0⟩, ⟨x1, y1⟩, ⟨x2, y2⟩, ⟨x3, y3⟩, g0, g1, g2, g3⟩ := (k0.below hb1).cells)
  exact bodyPost_ret (v := .agg #[.bool _, .slice _ _ _, .bool _, .slice _ _ _]) (by simp [results, Try.results35, go_sem, y0, y1, y2, y3]) rfl (postQ_put4 (n1 := w0.heap.size) ⟨_, _, rfl, ⟨r5, A5, c5, rfl, h5⟩, ⟨r6, A6, c6, rfl, h6⟩⟩ HQ.out hS (bl_trans hb0 hb1) (by omega) (by omega))
set_option maxHeartbeats 1000000 in
theorem frac_Neg_calls (va : Value) (a : Qr) (w : World) (ha : IsQ w va a) (hlen : 8 * (1 + a.S) + 8 ≤ 35184372088832) :
    Calls Try.prog 42 #[va] w (PostQ w (-a.val) (1 + a.S)) := by
  have hA := ha
  obtain ⟨A1, c1, A2, c2, rfl⟩ := ha.slices
  have HL := Lib.hid hlen
  clear hlen ha
  go_enter Try.func42, Try.ntmps42
  go_wp2_with (go_at_call 37; generalize hw0 : World.alloc _ _ = w0
               have hb0 : Below w.heap.size w w0 := by subst hw0; exact bl_alloc2 (bl_alloc _ _) _
               have k0 : Four (w.heap.size + 1) w0 := by subst hw0; exact Four.alloc _ _ _ _ _ (by simp)
               have z0 : w0.heap.size = w.heap.size + 2 := by subst hw0; simp
               clear hw0
               refine (frac_Sub_calls _ _ zeroQ a _ (isZero w0) (hA.below hb0) HL.out).mono ?_; rintro e w1 ⟨q, v, HQ, hS, rfl, hN, hb1⟩
               obtain ⟨v5, v6, rfl, ⟨r5, A5, c5, rfl, h5⟩, ⟨r6, A6, c6, rfl, h6⟩⟩ := hN
               obtain ⟨⟨x0, y0⟩, ⟨x1, y1⟩, ⟨x2, y2⟩, ⟨x3, y3⟩, g0, g1, g2, g3⟩ := (k0.below hb1).cells)
  exact bodyPost_ret (v := .agg #[.bool _, .slice _ _ _, .bool _, .slice _ _ _]) (by simp [results, Try.results42, go_sem, y0, y1, y2, y3]) rfl (postQ_put4 (n1 := w0.heap.size) ⟨_, _, rfl, ⟨r5, A5, c5, rfl, h5⟩, ⟨r6, A6, c6, rfl, h6⟩⟩ (by rw [HQ.out, zeroQ_val, Rat.sub_eq_add_neg, Rat.zero_add]) hS (bl_trans hb0 hb1) (by omega) (by omega))
theorem canQ_int (i : Int) : canQ (i : Rat) = ⟨canZ i, ⟨false, []⟩⟩ := by
  unfold canQ
  simp
set_option maxHeartbeats 1000000 in
theorem frac_FromInt64_calls (i : Int) (w : World) (h1 : -9223372036854775808 ≤ i) (h2 : i ≤ 9223372036854775807) :
    Calls Try.prog 74 #[.int .i64 i] w (PostQ w (i : Rat) 3) := by
  have hS : (canQ (i : Rat)).S ≤ 3 := by
    rw [canQ_int]
    have : (canZ i).ws.length ≤ 2 := canZ_len (by omega)
    unfold Qr.S
    simp only [List.length_nil]
    omega
  have HS := Lib.hid hS
  clear hS
  go_enter Try.func74, Try.ntmps74
  go_wp2_with (go_at_call 116; generalize hw0 : World.alloc _ _ = w0
               have hb0 : Below w.heap.size w w0 := by subst hw0; exact bl_alloc _ _
               have k0 : Four w.heap.size w0 := by subst hw0; exact Four.alloc _ _ _ _ _ (by simp)
               have z0 : w0.heap.size = w.heap.size + 1 := by subst hw0; simp
               clear hw0
               refine (FromInt64_calls i w0 h1 h2).mono ?_; rintro e w1 ⟨z, v, HZ, rfl, hN, hb1⟩
               obtain ⟨v5, rfl, ⟨r5, A5, c5, rfl, h5⟩⟩ := hN
               obtain ⟨⟨x0, y0⟩, ⟨x1, y1⟩, ⟨x2, y2⟩, ⟨x3, y3⟩, g0, g1, g2, g3⟩ := (k0.below hb1).cells)
  exact bodyPost_ret (v := .agg #[.bool _, .slice _ _ _, .bool _, .slice _ _ _]) (by simp [results, Try.results74, go_sem, y0, y1, y2, y3]) rfl (postQ_put4 (n1 := w0.heap.size) (q := ⟨z, ⟨false, []⟩⟩) ⟨_, _, rfl, ⟨r5, A5, c5, rfl, h5⟩, ⟨Rng.nil, none, 0, rfl, NRow.nil _ _ _⟩⟩ (by rw [HZ.out, canQ_int]) (by have := HS.out; rw [canQ_int, ← HZ.out] at this; exact this) (bl_trans hb0 hb1) (by omega) (by omega))
set_option maxHeartbeats 1000000 in
theorem frac_Canonical_calls (va : Value) (a : Qr) (w : World) (ha : IsQ w va a) (hlen : 8 * (1 + a.S) + 8 ≤ 35184372088832) :
    Calls Try.prog 102 #[va] w (PostQ w a.val (a.S + 1)) := by
  have hA := ha
  have ka : a.Ok := by obtain ⟨_, _, _, h1, h2⟩ := ha; exact ⟨h1.1, h2.1⟩
  obtain ⟨A1, c1, A2, c2, rfl⟩ := ha.slices
  have HLa : Hid (a.S ≤ 35184372088832) := Lib.hid (by omega)
  have HL := Lib.hid hlen
  clear hlen ha
  go_enter Try.func102, Try.ntmps102
  go_wp2_with (first
    | (go_at_call 117; generalize hw0 : World.alloc _ _ = w0
       have hb0 : Below w.heap.size w w0 := by subst hw0; exact bl_alloc2 (bl_alloc _ _) _
       have k0 : Four (w.heap.size + 1) w0 := by subst hw0; exact Four.alloc _ _ _ _ _ (by simp)
       have z0 : w0.heap.size = w.heap.size + 2 := by subst hw0; simp
       clear hw0
       refine (of_calls _ a w0 (hA.below hb0) HLa.out).mono ?_; rintro e w1 ⟨p, x1, HP, rfl, hP, hb1⟩
       have HK := Lib.hid (can_ok HP.out ka)
       have hz0 := HP.out.pos
       have hz1 := HP.out.val
       have hz2 : 2 * (p.n.ws.length + p.d.ws.length) + 4 ≤ 35184372088832 := by have := HP.out.ln; have := HP.out.ld; have := HL.out; omega)
    | (go_at_call 131; refine (least_calls _ p a.val (a.S + 1) w1 hP hz0 hz1 HK.out hz2).mono ?_; rintro e w2 ⟨q, v, HQ, hS, rfl, hN, hb2⟩
       obtain ⟨v5, v6, rfl, ⟨r5, A5, c5, rfl, h5⟩, ⟨r6, A6, c6, rfl, h6⟩⟩ := hN
       have hs1 := hb1.size
       obtain ⟨⟨x0, y0⟩, ⟨x1, y1⟩, ⟨x2, y2⟩, ⟨x3, y3⟩, g0, g1, g2, g3⟩ := ((k0.below hb1).below hb2).cells))
  exact bodyPost_ret (v := .agg #[.bool _, .slice _ _ _, .bool _, .slice _ _ _]) (by simp [results, Try.results102, go_sem, y0, y1, y2, y3]) rfl (postQ_put4 (n1 := w1.heap.size) ⟨_, _, rfl, ⟨r5, A5, c5, rfl, h5⟩, ⟨r6, A6, c6, rfl, h6⟩⟩ HQ.out hS (bl_trans hb0 (bl_trans hb1 hb2)) (by omega) (by omega))
theorem sign_divInt {n d : Int} (hd : 0 < d) : (Rat.divInt n d).num.sign = n.sign := by
  rw [least_num hd]
  have hg : (0 : Int) < (Int.gcd n d : Nat) := by have := gcd_ne (a := n) hd; omega
  have hdv : ((Int.gcd n d : Nat) : Int) ∣ n := Int.gcd_dvd_left ..
  generalize ((Int.gcd n d : Nat) : Int) = g at *
  obtain ⟨c, rfl⟩ := hdv
  rw [Int.mul_ediv_cancel_left _ (by omega), Int.sign_mul, Int.sign_eq_one_of_pos hg, Int.one_mul]
set_option maxHeartbeats 1000000 in
theorem frac_Sign_calls (va : Value) (a : Qr) (w : World) (ha : IsQ w va a) (hlen : 8 * (1 + a.S) + 8 ≤ 35184372088832) :
    Calls Try.prog 88 #[va] w fun e w' => e = .returned (.int .i64 a.val.num.sign) ∧ Below w.heap.size w w' := by
  have hA := ha
  obtain ⟨A1, c1, A2, c2, rfl⟩ := ha.slices
  have HLa : Hid (a.S ≤ 35184372088832) := Lib.hid (by omega)
  clear hlen ha
  have hfd : ∀ (W : World) (b1 b2 : Bool) (A B : Option Addr) (n c m d : Nat), (Instr.field 118 (.agg #[.bool b1, .slice A n c, .bool b2, .slice B m d]) 0).run Try.prog W = .ok (.agg #[.bool b1, .slice A n c]) W := by intros; kernel_rfl
  go_enter Try.func88, Try.ntmps88
  go_wp2_with (first
    | (go_at_call 117; refine (of_calls _ a _ (hA.below (bl_alloc _ _)) HLa.out).mono ?_; rintro e w1 ⟨p, x1, HP, rfl, hP, hb1⟩
       obtain ⟨v1, v2, rfl, hn, hd⟩ := hP
       have hpn : IsZ w1 (.agg #[.bool p.n.neg, v1]) p.n := ⟨v1, rfl, hn⟩
       obtain ⟨r5, A5, c5, rfl, h5⟩ := hn; obtain ⟨r6, A6, c6, rfl, h6⟩ := hd)
    | (go_at_call 123; refine (Sign_calls _ p.n _ hpn).mono ?_; rintro e w2 ⟨rfl, hb2⟩))
  go_ret
  exact ⟨ret_int (by rw [← HP.out.val, sign_divInt HP.out.pos]), bl_trans (bl_trans (bl_alloc _ _) hb1) hb2⟩
theorem cmp_sign {a b p q : Qr} (hp : Parts a p) (hq : Parts b q) (ka : a.Ok) (kb : b.Ok) : (p.n.val * q.d.val - q.n.val * p.d.val).sign = (a.val - b.val).num.sign := by
  have h := sub_ok hp hq ka kb
  rw [← h.val, sign_divInt h.pos]
theorem sign_eq_zero {x y : Rat} : (x - y).num.sign = 0 ↔ x = y := by
  rw [Int.sign_eq_zero_iff_zero, Rat.num_eq_zero]
  constructor
  · intro h; have : x - y + y = 0 + y := by rw [h]
    rwa [Rat.sub_add_cancel, Rat.zero_add] at this
  · rintro rfl; exact Rat.sub_self
end Go.Proofs.Ytnmmgegnioihmaa
namespace Go.Proofs.Ytnmmgegnioihmaa
open Go.RowKit

theorem absorb {A G : Prop} (h : A) (k : A → G) : G := k h
theorem Four.lt {k : Nat} {W : World} (h : Four k W) : k < W.heap.size := by
  obtain ⟨_, _, _, _, _, h⟩ := h; exact (Array.getElem?_eq_some_iff.1 h).1
theorem Fr.set4 {w w0 W : World} {K : Nat → Prop} {k : Nat} {a b c d : Value} (h0 : Below w.heap.size w w0) (h : Fr w w0 K W) (hk : w0.heap.size ≤ k) : Fr w w0 K ((((W.setCell ⟨k, 0, none⟩ a).setCell ⟨k, 1, none⟩ b).setCell ⟨k, 2, none⟩ c).setCell ⟨k, 3, none⟩ d) := by
  have hb : Below w0.heap.size W ((((W.setCell ⟨k, 0, none⟩ a).setCell ⟨k, 1, none⟩ b).setCell ⟨k, 2, none⟩ c).setCell ⟨k, 3, none⟩ d) :=
    ((((Below.refl _ _).setCell (p := ⟨k, 0, none⟩) hk a).setCell (p := ⟨k, 1, none⟩) hk b).setCell (p := ⟨k, 2, none⟩) hk c).setCell (p := ⟨k, 3, none⟩) hk d
  refine ⟨h.b.trans (hb.mono h0.size), Nat.le_trans h.size hb.size, fun i hi hK => (hb.block i hi).trans (h.block i hi hK), fun i cs T fr hc => ?_⟩
  obtain ⟨cs', hs, hc'⟩ := h.shape i cs T fr hc
  exact ⟨cs', hs, (hb.block i (Array.getElem?_eq_some_iff.1 hc).1).trans hc'⟩
theorem Four.facts {k : Nat} {W : World} (h : Four k W) : ∃ x0 x1 x2 x3, W.cell? ⟨k, 0, none⟩ = some x0 ∧ W.cell? ⟨k, 1, none⟩ = some x1 ∧ W.cell? ⟨k, 2, none⟩ = some x2 ∧ W.cell? ⟨k, 3, none⟩ = some x3 ∧
    (∀ j, j < 4 → W.frozen? ⟨k, j, none⟩ = false) ∧
    (∀ o, (W.alloc o).cell? ⟨k, 0, none⟩ = some x0) ∧ (∀ o, (W.alloc o).cell? ⟨k, 1, none⟩ = some x1) ∧ (∀ o, (W.alloc o).cell? ⟨k, 2, none⟩ = some x2) ∧ (∀ o, (W.alloc o).cell? ⟨k, 3, none⟩ = some x3) ∧
    W.frozen? ⟨k, 0, none⟩ = false ∧ W.frozen? ⟨k, 1, none⟩ = false ∧ W.frozen? ⟨k, 2, none⟩ = false ∧ W.frozen? ⟨k, 3, none⟩ = false ∧
    (∀ o, (W.alloc o).frozen? ⟨k, 0, none⟩ = false) ∧ (∀ o, (W.alloc o).frozen? ⟨k, 1, none⟩ = false) ∧ (∀ o, (W.alloc o).frozen? ⟨k, 2, none⟩ = false) ∧ (∀ o, (W.alloc o).frozen? ⟨k, 3, none⟩ = false) := by
  obtain ⟨⟨x0, y0⟩, ⟨x1, y1⟩, ⟨x2, y2⟩, ⟨x3, y3⟩, g0, g1, g2, g3⟩ := h.cells
  have b := fun o => bl_alloc W o
  exact ⟨x0, x1, x2, x3, y0, y1, y2, y3, fun j hj => by
      match j, hj with
      | 0, _ => exact g0
      | 1, _ => exact g1
      | 2, _ => exact g2
      | 3, _ => exact g3, fun o => bl_cell (b o) y0, fun o => bl_cell (b o) y1, fun o => bl_cell (b o) y2, fun o => bl_cell (b o) y3, g0, g1, g2, g3,
    fun o => (bl_frozen (b o) y0).trans g0, fun o => (bl_frozen (b o) y1).trans g1, fun o => (bl_frozen (b o) y2).trans g2, fun o => (bl_frozen (b o) y3).trans g3⟩
theorem Four.drew {k : Nat} {W : World} (h : Four k W) : Four k W.drew := h
/-- region 1's end: the two parts in boxes of their own -/
def CutR (a b : Qr) (w : World) (t5 t6 : Value) (W : World) : Prop := ∃ k5 k6 p q P1 p1 P2 p2 Q1 q1 Q2 q2, t5 = .pointer (some ⟨k5, 0, none⟩) ∧ t6 = .pointer (some ⟨k6, 0, none⟩) ∧ Hid (Parts a p) ∧ Hid (Parts b q) ∧
  (W.cell? ⟨k5, 0, none⟩ = some (.bool p.n.neg) ∧ W.cell? ⟨k5, 1, none⟩ = some (.slice P1 p.n.ws.length p1) ∧ W.cell? ⟨k5, 2, none⟩ = some (.bool p.d.neg) ∧ W.cell? ⟨k5, 3, none⟩ = some (.slice P2 p.d.ws.length p2)) ∧
  (W.cell? ⟨k6, 0, none⟩ = some (.bool q.n.neg) ∧ W.cell? ⟨k6, 1, none⟩ = some (.slice Q1 q.n.ws.length q1) ∧ W.cell? ⟨k6, 2, none⟩ = some (.bool q.d.neg) ∧ W.cell? ⟨k6, 3, none⟩ = some (.slice Q2 q.d.ws.length q2)) ∧
  IsQ W (.agg #[.bool p.n.neg, .slice P1 p.n.ws.length p1, .bool p.d.neg, .slice P2 p.d.ws.length p2]) p ∧ IsQ W (.agg #[.bool q.n.neg, .slice Q1 q.n.ws.length q1, .bool q.d.neg, .slice Q2 q.d.ws.length q2]) q ∧ Below w.heap.size w W
theorem ag_set {W : World} {p : Addr} {u : Value} {k : Nat} {X : Option Obj} (h : W.heap[k]? = X) (hne : k ≠ p.block) : (W.setCell p u).heap[k]? = X := (Below.heap_setCell _ _ _ _ hne).trans h
theorem ag_alloc {W : World} {o : Obj} {k : Nat} {X : Option Obj} (h : W.heap[k]? = X) (hk : k < W.heap.size) : (W.alloc o).heap[k]? = X := (heap_alloc_old W o k hk).trans h
theorem ag_drew {W : World} {k : Nat} {X : Option Obj} (h : W.heap[k]? = X) : W.drew.heap[k]? = X := h
theorem ag_bl {W W' : World} {k : Nat} {X : Option Obj} (hb : Below W.heap.size W W') (h : W.heap[k]? = X) (hk : k < W.heap.size) : W'.heap[k]? = X := (hb.block k hk).trans h
set_option maxHeartbeats 40000000 in
theorem frac_Cmp_calls (va vb : Value) (a b : Qr) (w : World) (ha : IsQ w va a) (hb : IsQ w vb b) (hlen : 8 * (a.S + b.S) + 8 ≤ 35184372088832) :
    Calls Try.prog 79 #[va, vb] w fun e w' => e = .returned (.int .i64 (a.val - b.val).num.sign) ∧ Below w.heap.size w w' := by
  have hA := ha
  have hB := hb
  have ka : a.Ok := by obtain ⟨_, _, _, h1, h2⟩ := ha; exact ⟨h1.1, h2.1⟩
  have kb : b.Ok := by obtain ⟨_, _, _, h1, h2⟩ := hb; exact ⟨h1.1, h2.1⟩
  obtain ⟨A1, c1, A2, c2, rfl⟩ := ha.slices
  obtain ⟨A3, c3, A4, c4, rfl⟩ := hb.slices
  have HLa : Hid (a.S ≤ 35184372088832) := Lib.hid (by omega)
  have HLb : Hid (b.S ≤ 35184372088832) := Lib.hid (by omega)
  have HL := Lib.hid hlen
  clear hlen ha hb
  go_enter Try.func79, Try.ntmps79
  go_wp2
  generalize hw0 : World.alloc _ _ = w0
  have hb0 : Below w.heap.size w w0 := by subst hw0; exact bl_alloc2 (bl_alloc _ _) _
  have t1 : Box4 w w0 (fun _ => False) w.heap.size (.bool a.n.neg) (.slice A1 a.n.ws.length c1) (.bool a.d.neg) (.slice A2 a.d.ws.length c2) := Box4.mk (fun h => h) (by subst hw0; refine ⟨?_, ?_, ?_, ?_⟩ <;> go_simp)
  have t2 : Box4 w w0 (fun _ => False) (w.heap.size + 1) (.bool b.n.neg) (.slice A3 b.n.ws.length c3) (.bool b.d.neg) (.slice A4 b.d.ws.length c4) := Box4.mk (fun h => h) (by subst hw0; refine ⟨?_, ?_, ?_, ?_⟩ <;> go_simp)
  have f0 : Fr w w0 (fun _ => False) w0 := Fr.start hb0
  have z0 : w0.heap.size = w.heap.size + 2 := by subst hw0; simp
  clear hw0
  have HZ0 := Lib.hid z0
  clear z0
  go_upto_region 1 with fail
  go_cut [5, 6] from 7 to 10 (fun t5 t6 wx => CutR a b w t5 t6 wx)
  case first =>
   go_region_held3 (fun W => Fr w w0 (fun _ => False) W) (with_reducible (first | assumption | (refine Fr.set4 hb0 ?_ ?_; (focus (first | assumption | (refine Fr.call f3 (bl_alloc _ _)) | (refine Fr.call f3 (bl_alloc2 (bl_alloc _ _) _)) | (refine Fr.set4 hb0 ?_ ?_; (focus (first | assumption | (refine Fr.call f3 (bl_alloc _ _)) | (refine Fr.call f3 (bl_alloc2 (bl_alloc _ _) _)))); (have := f2.size; have := f3.size; first | omega | simp | (simp; omega))))); (have := f2.size; have := f3.size; first | omega | simp | (simp; omega))) | exact Fr.drew (by assumption) | exact Fr.call (by assumption) (by assumption) | exact Fr.call (by assumption) (bl_alloc _ _) | exact Fr.call (by assumption) (bl_alloc2 (bl_alloc _ _) _))) (first
    | (go_at_call 117; (with_reducible refine (of_callsx _ a w _ hA (Fr.b (by assumption)) HLa.out).mono ?_); rintro e w2 ⟨p, x1, HP, rfl, hb2, HX⟩; obtain ⟨P1, p1, P2, p2, rfl⟩ := (HX.out w2 (fun _ _ _ => rfl)).slices; have f2 := Fr.call (by assumption) hb2; (try (refine absorb (A := Four (w0.heap.size) w2) ?_ ?_; (focus (refine Four.below ?_ hb2; ((repeat (first | (with_reducible (refine Four.alloc _ _ _ _ _ ?_); first | rfl | (simp; done)) | (with_reducible refine Four.drew ?_) | (with_reducible refine Four.below ?_ (bl_alloc _ _)))); done))); intro Fa; have := Nat.ne_of_lt (Four.lt Fa); have := Nat.ne_of_gt (Four.lt Fa))); (try (refine absorb (A := Four (w0.heap.size + 1) w2) ?_ ?_; (focus (refine Four.below ?_ hb2; ((repeat (first | (with_reducible (refine Four.alloc _ _ _ _ _ ?_); first | rfl | (simp; done)) | (with_reducible refine Four.drew ?_) | (with_reducible refine Four.below ?_ (bl_alloc _ _)))); done))); intro Fb; have := Nat.ne_of_lt (Four.lt Fb); have := Nat.ne_of_gt (Four.lt Fb))))
    | (go_at_call 117; (with_reducible refine (of_callsx _ b w _ hB (Fr.b (by assumption)) HLb.out).mono ?_); rintro e w3 ⟨q, x2, HQ, rfl, hb3, HY⟩; obtain ⟨Q1, q1, Q2, q2, rfl⟩ := (HY.out w3 (fun _ _ _ => rfl)).slices; have f3 := Fr.call (by assumption) hb3; (try (refine absorb (A := Four (w0.heap.size) w3) ?_ ?_; (focus (refine Four.below ?_ hb3; ((repeat (first | (with_reducible exact Fa) | (with_reducible (refine Four.alloc _ _ _ _ _ ?_); first | rfl | (simp; done)) | (with_reducible refine Four.drew ?_) | (with_reducible refine Four.below ?_ (bl_alloc _ _)))); done))); intro Fc)); (try (refine absorb (A := Four (w0.heap.size + 1) w3) ?_ ?_; (focus (refine Four.below ?_ hb3; ((repeat (first | (with_reducible exact Fb) | (with_reducible (refine Four.alloc _ _ _ _ _ ?_); first | rfl | (simp; done)) | (with_reducible refine Four.drew ?_) | (with_reducible refine Four.below ?_ (bl_alloc _ _)))); done))); intro Fd)); (try (refine absorb (A := Four (w2.heap.size) w3) ?_ ?_; (focus (refine Four.below ?_ hb3; ((repeat (first | (with_reducible (refine Four.alloc _ _ _ _ _ ?_); first | rfl | (simp; done)) | (with_reducible refine Four.drew ?_) | (with_reducible refine Four.below ?_ (bl_alloc _ _)))); done))); intro Fe)); (try (refine absorb (A := Four (w2.heap.size + 1) w3) ?_ ?_; (focus (refine Four.below ?_ hb3; ((repeat (first | (with_reducible (refine Four.alloc _ _ _ _ _ ?_); first | rfl | (simp; done)) | (with_reducible refine Four.drew ?_) | (with_reducible refine Four.below ?_ (bl_alloc _ _)))); done))); intro Ff)); (try (obtain ⟨_, _, _, _, _, _, _, _, _, _, _, _, _, _, _, _, _, _, _, _, _⟩ := Four.facts Fc; have := Nat.ne_of_lt (Four.lt Fc); have := Nat.ne_of_gt (Four.lt Fc))); (try (obtain ⟨_, _, _, _, _, _, _, _, _, _, _, _, _, _, _, _, _, _, _, _, _⟩ := Four.facts Fd; have := Nat.ne_of_lt (Four.lt Fd); have := Nat.ne_of_gt (Four.lt Fd))); (try (obtain ⟨_, _, _, _, _, _, _, _, _, _, _, _, _, _, _, _, _, _, _, _, _⟩ := Four.facts Fe; have := Nat.ne_of_lt (Four.lt Fe); have := Nat.ne_of_gt (Four.lt Fe))); (try (obtain ⟨_, _, _, _, _, _, _, _, _, _, _, _, _, _, _, _, _, _, _, _, _⟩ := Four.facts Ff; have := Nat.ne_of_lt (Four.lt Ff); have := Nat.ne_of_gt (Four.lt Ff)))))
   all_goals (go_wp2_with fail; go_meet)
   all_goals (have s2 := hb2.size; have s3 := hb3.size; have z0 := HZ0.out; (try simp at s2); (try simp at s3))
   all_goals (refine ⟨_, _, p, q, P1, p1, P2, p2, Q1, q1, Q2, q2, rfl, rfl, HP, HQ, ?_, ?_, HX.out _ ?_, HY.out _ ?_, Fr.b (by assumption)⟩)
   all_goals (first | (focus (show ∀ k, _; (intro k hk hor; (try simp at hor); (repeat' (first | (with_reducible rfl) | (with_reducible refine ag_set ?_ ?_) | (with_reducible refine ag_alloc ?_ ?_) | (with_reducible refine ag_drew ?_) | (with_reducible refine ag_bl hb3 ?_ ?_))); all_goals (first | omega | (simp; omega))))) | skip)
   all_goals (clear z0; refine ⟨?_, ?_, ?_, ?_⟩)
   all_goals go_simp
  case rest =>
    obtain ⟨k5, k6, p, q, P1, p1, P2, p2, Q1, q1, Q2, q2, rfl, rfl, HP, HQ, y5, y6, hp, hq, hbc⟩ := hcut
    clear hA hB t1 t2 f0 HZ0 HLa HLb
    obtain ⟨v1, v2, e, hpn0, hpd0⟩ := hp; cases e
    obtain ⟨v3, v4, e, hqn0, hqd0⟩ := hq; cases e
    have hpn : IsZ wc (.agg #[.bool p.n.neg, .slice P1 p.n.ws.length p1]) p.n := ⟨_, rfl, hpn0⟩
    have hpd : IsZ wc (.agg #[.bool p.d.neg, .slice P2 p.d.ws.length p2]) p.d := ⟨_, rfl, hpd0⟩
    have hqn : IsZ wc (.agg #[.bool q.n.neg, .slice Q1 q.n.ws.length q1]) q.n := ⟨_, rfl, hqn0⟩
    have hqd : IsZ wc (.agg #[.bool q.d.neg, .slice Q2 q.d.ws.length q2]) q.d := ⟨_, rfl, hqd0⟩
    have hl : p.n.ws.length + q.d.ws.length + (q.n.ws.length + p.d.ws.length) + 4 ≤ 35184372088832 := by
      have := HL.out; have := HP.out.ln; have := HP.out.ld; have := HQ.out.ln; have := HQ.out.ld; omega
    have hm1 := mul_len (x := p.n) (y := q.d) hpn0.1 hqd0.1
    have hm2 := mul_len (x := q.n) (y := p.d) hqn0.1 hpd0.1
    have HLM : Hid ((canZ (p.n.val * q.d.val)).ws.length + (canZ (q.n.val * p.d.val)).ws.length + 2 ≤ 35184372088832) := Lib.hid (by omega)
    have HL1 : Hid (p.n.ws.length + q.d.ws.length ≤ 35184372088832) := Lib.hid (by omega)
    have HL2 : Hid (q.n.ws.length + p.d.ws.length ≤ 35184372088832) := Lib.hid (by omega)
    clear hl hm1 hm2 hpn0 hpd0 hqn0 hqd0
    have t5 : Box4 wc wc (fun _ => False) k5 (.bool p.n.neg) (.slice P1 p.n.ws.length p1) (.bool p.d.neg) (.slice P2 p.d.ws.length p2) := Box4.mk (fun h => h) y5
    have t6 : Box4 wc wc (fun _ => False) k6 (.bool q.n.neg) (.slice Q1 q.n.ws.length q1) (.bool q.d.neg) (.slice Q2 q.d.ws.length q2) := Box4.mk (fun h => h) y6
    have f0 : Fr wc wc (fun _ => False) wc := Fr.start (Below.refl _ _)
    clear y5 y6
    go_upto_region 2 with fail
    go_region_held3 (fun W => Fr wc wc (fun _ => False) W) (first | assumption | exact Fr.drew (by assumption) | exact Fr.call (by assumption) (by assumption)) (first
      | (go_at_call 119; (with_reducible refine (whole_Mul_calls _ _ p.n q.d _ (hpn.below (Fr.b (by assumption))) (hqd.below (Fr.b (by assumption))) HL1.out).mono ?_); rintro e w4 ⟨z3, x3, HZ3, rfl, hZ3, hb4⟩; obtain ⟨v5, rfl, r5, A5, c5, rfl, h5⟩ := hZ3; have hz3 : IsZ w4 (.agg #[.bool z3.neg, .slice A5 z3.ws.length c5]) z3 := ⟨_, rfl, r5, A5, c5, rfl, h5.toRow⟩)
      | (go_at_call 119; (with_reducible refine (whole_Mul_calls _ _ q.n p.d _ (hqn.below (Fr.b (by assumption))) (hpd.below (Fr.b (by assumption))) HL2.out).mono ?_); rintro e w5 ⟨z4, x4, HZ4, rfl, hZ4, hb5⟩; obtain ⟨v6, rfl, r6, A6, c6, rfl, h6⟩ := hZ4; have hz4 : IsZ w5 (.agg #[.bool z4.neg, .slice A6 z4.ws.length c6]) z4 := ⟨_, rfl, r6, A6, c6, rfl, h6.toRow⟩)
      | (go_at_call 118; have hlc : z3.ws.length + z4.ws.length + 2 ≤ 35184372088832 := (HZ3.out ▸ HZ4.out ▸ HLM.out); (with_reducible refine (whole_Cmp_calls _ _ z3 z4 _ (hz3.below (by assumption)) hz4 hlc).mono ?_); rintro e w6 ⟨rfl, hb6⟩; have f6 := Fr.call (by assumption) hb6))
    go_wp2
    go_ret
    refine ⟨?_, bl_trans hbc f6.b⟩
    rw [HZ3.out, HZ4.out, canZ_val, canZ_val, cmp_sign HP.out HQ.out ka kb]
    rfl
theorem sign_dec (x y : Rat) : decide ((x - y).num.sign = 0) = decide (x = y) := by simp only [sign_eq_zero]
set_option maxHeartbeats 1000000 in
theorem frac_Equal_calls (va vb : Value) (a b : Qr) (w : World) (ha : IsQ w va a) (hb : IsQ w vb b) (hlen : 8 * (a.S + b.S) + 8 ≤ 35184372088832) :
    Calls Try.prog 34 #[va, vb] w fun e w' => e = .returned (.bool (decide (a.val = b.val))) ∧ Below w.heap.size w w' := by
  have hA := ha
  have hB := hb
  obtain ⟨A1, c1, A2, c2, rfl⟩ := ha.slices
  obtain ⟨A3, c3, A4, c4, rfl⟩ := hb.slices
  have HL := Lib.hid hlen
  clear hlen ha hb
  have HE := Lib.hid (sign_dec a.val b.val)
  go_enter Try.func34, Try.ntmps34
  go_wp2_with (go_at_call 79; generalize hw0 : World.alloc _ _ = w0
               have hb0 : Below w.heap.size w w0 := by subst hw0; exact bl_alloc2 (bl_alloc _ _) _
               clear hw0
               refine (frac_Cmp_calls _ _ a b _ (hA.below hb0) (hB.below hb0) HL.out).mono ?_; rintro e w1 ⟨rfl, hb1⟩
               generalize (a.val - b.val).num.sign = sg at *)
  exact bodyPost_ret (v := .bool (sg == 0)) (by simp [results, Try.results34, go_sem]) rfl ⟨ret_bool HE.out, bl_trans hb0 hb1⟩
end Go.Proofs.Ytnmmgegnioihmaa
