/- Package frac: of, least. -/
import Derived.Test.YtnmmgegnioihmaaWhole4
set_option linter.unusedVariables false
set_option linter.unusedSimpArgs false
namespace Go.Proofs.Ytnmmgegnioihmaa
open Go.RowKit

/-- the parts of a rational: a positive denominator -/
structure Parts (q p : Qr) : Prop where
  sg : (p.n.val = q.n.val ∧ p.d.val = q.dv) ∨ (p.n.val = -q.n.val ∧ p.d.val = -q.dv)
  pos : 0 < p.d.val
  ln : p.n.ws.length ≤ q.S
  ld : p.d.ws.length ≤ q.S
theorem Parts.val {q p : Qr} (h : Parts q p) : Rat.divInt p.n.val p.d.val = q.val := by
  unfold Qr.val
  rcases h.sg with ⟨h1, h2⟩ | ⟨h1, h2⟩
  · rw [h1, h2]
  · rw [h1, h2, Rat.neg_divInt_neg]
theorem Qr.dv_eq {q : Qr} (h : q.d.val ≠ 0) : q.dv = q.d.val := by unfold Qr.dv; rw [if_neg h]
theorem parts_neg {q : Qr} (hs : q.d.val < 0) (h1 : Rng q.n.ws) (h2 : Rng q.d.ws) : Parts q ⟨canZ (-q.n.val), canZ (-q.d.val)⟩ := by
  refine ⟨.inr ⟨canZ_val _, ?_⟩, ?_, ?_, ?_⟩
  · rw [Qr.dv_eq (by omega)]; exact canZ_val _
  · show 0 < (canZ (-q.d.val)).val; rw [canZ_val]; omega
  · exact Nat.le_trans (canZ_len (k := q.n.ws.length) (by rw [Int.natAbs_neg]; exact Zr.val_lt h1)) (by unfold Qr.S; omega)
  · exact Nat.le_trans (canZ_len (k := q.d.ws.length) (by rw [Int.natAbs_neg]; exact Zr.val_lt h2)) (by unfold Qr.S; omega)
theorem parts_pos {q : Qr} (hs : 0 < q.d.val) : Parts q ⟨q.n, q.d⟩ := ⟨.inl ⟨rfl, (Qr.dv_eq (q := q) (by omega)).symm⟩, hs, by unfold Qr.S; dsimp only; omega, by unfold Qr.S; dsimp only; omega⟩
theorem parts_zero {q : Qr} (hs : q.d.val = 0) : Parts q ⟨q.n, canZ 1⟩ := by
  refine ⟨.inl ⟨rfl, ?_⟩, ?_, by unfold Qr.S; dsimp only; omega, ?_⟩
  · unfold Qr.dv; rw [if_pos hs]; exact canZ_val _
  · show 0 < (canZ 1).val; rw [canZ_val]; omega
  · exact Nat.le_trans (canZ_len (k := 1) (by decide)) (by unfold Qr.S; omega)
def PostP (w : World) (q : Qr) (e : Ending) (w' : World) : Prop := ∃ p v, Hid (Parts q p) ∧ e = .returned v ∧ IsQ w' v p ∧ Below w.heap.size w w'
theorem NQ.put4 {w1 : World} {v : Value} {q : Qr} {n0 k : Nat} {a b c d : Value} (h : NQ n0 w1 v q) (hk : k < n0) : NQ n0 ((((w1.setCell ⟨k, 0, none⟩ a).setCell ⟨k, 1, none⟩ b).setCell ⟨k, 2, none⟩ c).setCell ⟨k, 3, none⟩ d) v q :=
  (((h.setCell (p := ⟨k, 0, none⟩) hk a).setCell (p := ⟨k, 1, none⟩) hk b).setCell (p := ⟨k, 2, none⟩) hk c).setCell (p := ⟨k, 3, none⟩) hk d
theorem NW.put4 {w1 : World} {v : Value} {xs : List Nat} {n0 k : Nat} {a b c d : Value} (h : NW n0 w1 v xs) (hk : k < n0) : NW n0 ((((w1.setCell ⟨k, 0, none⟩ a).setCell ⟨k, 1, none⟩ b).setCell ⟨k, 2, none⟩ c).setCell ⟨k, 3, none⟩ d) v xs :=
  (((h.setCell (p := ⟨k, 0, none⟩) hk a).setCell (p := ⟨k, 1, none⟩) hk b).setCell (p := ⟨k, 2, none⟩) hk c).setCell (p := ⟨k, 3, none⟩) hk d
theorem bl_put4 {w w1 : World} {k : Nat} {a b c d : Value} (hb : Below w.heap.size w w1) (hk : w.heap.size ≤ k) :
    Below w.heap.size w ((((w1.setCell ⟨k, 0, none⟩ a).setCell ⟨k, 1, none⟩ b).setCell ⟨k, 2, none⟩ c).setCell ⟨k, 3, none⟩ d) :=
  (((hb.setCell (p := ⟨k, 0, none⟩) hk a).setCell (p := ⟨k, 1, none⟩) hk b).setCell (p := ⟨k, 2, none⟩) hk c).setCell (p := ⟨k, 3, none⟩) hk d
theorem IsW.sameB {w0 w' W' : World} {v : Value} {xs : List Nat} (h : IsW w0 v xs) (hb : Below w0.heap.size w0 w') (hk : ∀ k, k < w0.heap.size → W'.heap[k]? = w'.heap[k]?) : IsW W' v xs := by
  obtain ⟨hr, A, c, e, h⟩ := h
  exact ⟨hr, A, c, e, h.same fun k hk0 => (hk k hk0).trans (hb.block k hk0)⟩
theorem NW.sameF {n0 : Nat} {w' W' : World} {v : Value} {xs : List Nat} (h : NW n0 w' v xs) (hk : ∀ k, k < w'.heap.size → n0 ≤ k → W'.heap[k]? = w'.heap[k]?) : IsW W' v xs := by
  obtain ⟨hr, A, c, e, h⟩ := h
  refine ⟨hr, A, c, e, ⟨h.le, h.mx, h.nl, fun hx => ?_⟩⟩
  obtain ⟨b, off, e1, hc⟩ := h.rd hx
  obtain ⟨b', off', e2, hn, _⟩ := h.own hx
  rw [e1] at e2; cases e2
  refine ⟨b, off, e1, fun j x hj => ?_⟩
  rw [← hc j x hj]
  exact World.cell?_of_block (w := w') (hk _ (World.block_lt_of_cell? w' _ (hc j x hj)) hn)
/-- what is left of a call of 'of' in worlds that agree on the old blocks and on the call's own -/
def PostPx (w0 w : World) (q : Qr) (e : Ending) (w' : World) : Prop := ∃ p v, Hid (Parts q p) ∧ e = .returned v ∧ Below w.heap.size w w' ∧ Hid (∀ W', (∀ k, k < w'.heap.size → (k < w0.heap.size ∨ w.heap.size ≤ k) → W'.heap[k]? = w'.heap[k]?) → IsQ W' v p)
set_option maxHeartbeats 2000000 in
theorem of_callsx (va : Value) (q : Qr) (w00 w : World) (ha00 : IsQ w00 va q) (h00 : Below w00.heap.size w00 w) (hlen : q.S ≤ 35184372088832) : Calls Try.prog 116 #[va] w (PostPx w00 w q) := by
  have ha := ha00.below h00
  have HA00 := Lib.hid ha00
  clear ha00
  obtain ⟨v1, v2, rfl, hn, hd⟩ := ha
  have hzd : IsZ w (.agg #[.bool q.d.neg, v2]) q.d := ⟨v2, rfl, hd⟩
  have hzn : IsZ w (.agg #[.bool q.n.neg, v1]) q.n := ⟨v1, rfl, hn⟩
  obtain ⟨rn, An, cn, rfl, hrn⟩ := hn
  obtain ⟨rd, Ad, cd, rfl, hrd⟩ := hd
  have hln : q.n.ws.length ≤ q.S ∧ q.d.ws.length ≤ q.S ∧ 1 ≤ q.S := by unfold Qr.S; omega
  have HLN := Lib.hid hln
  have HL := Lib.hid hlen
  have HLn : Hid (q.n.ws.length ≤ 35184372088832) := Lib.hid (by omega)
  have HLd : Hid (q.d.ws.length ≤ 35184372088832) := Lib.hid (by omega)
  clear hln hlen
  have hsign : ∀ w', IsZ w' (.agg #[.bool q.d.neg, .slice Ad q.d.ws.length cd]) q.d → Calls Try.prog 122 #[.agg #[.bool q.d.neg, .slice Ad q.d.ws.length cd]] w' fun e w'' => e = .returned (.int .i64 q.d.val.sign) ∧ Below w'.heap.size w' w'' := fun w' h => Sign_calls _ _ _ h
  obtain ⟨sg, hsg⟩ : ∃ sg, sg = q.d.val.sign := ⟨_, rfl⟩
  rw [← hsg] at hsign
  rcases Int.lt_trichotomy q.d.val 0 with hs | hs | hs
  · have h1 : sg = -1 := by rw [hsg, Int.sign_eq_neg_one_of_neg hs]
    subst h1
    have hv := hs
    have HV := Lib.hid hv
    clear hsg hs hv
    go_enter Try.func116, Try.ntmps116
    go_wp2_with (go_at_call 122; generalize hw0 : World.alloc _ _ = w0
                 have hb0 : Below w.heap.size w w0 := by subst hw0; exact bl_alloc2 (bl_alloc _ _) _
                 have t1 : Box4 w w0 (· = w.heap.size + 1) w.heap.size (.bool q.n.neg) (.slice An q.n.ws.length cn) (.bool q.d.neg) (.slice Ad q.d.ws.length cd) := Box4.mk (by omega) (by subst hw0; refine ⟨?_, ?_, ?_, ?_⟩ <;> go_simp)
                 have k0 : Four (w.heap.size + 1) w0 := by subst hw0; exact Four.alloc _ _ _ _ _ (by simp)
                 have f0 : Fr w w0 (· = w.heap.size + 1) w0 := Fr.start hb0
                 have z0 : w0.heap.size = w.heap.size + 2 := by subst hw0; simp
                 clear hw0
                 refine (hsign w0 (hzd.below hb0)).mono ?_; rintro e w1 ⟨rfl, hb1⟩; have f1 := f0.call hb1; obtain ⟨u0, u1, u2, u3⟩ := t1 _ f1; have z1 := f1.size)
    go_region_held3 (fun W => Fr w w0 (· = w.heap.size + 1) W) (first | assumption | exact Fr.drew (by assumption) | exact Fr.call (by assumption) (by assumption) | exact Fr.put4 f2 (by rfl) (by omega) _ _ _ _) (first
      | (go_at_call 142; (with_reducible refine (whole_Neg_calls _ q.n _ (hzn.below (Fr.b (by assumption))) HLn.out).mono ?_); rintro e w2 ⟨z1, x1, HZ1, rfl, hZ1, hb2⟩; obtain ⟨v3, rfl, hr1, A1, c1, rfl, hN1⟩ := hZ1; replace hN1 := hN1.mono (Nat.le_trans (Nat.le_of_eq z0.symm) (Fr.size (by assumption))))
      | (go_at_call 142; (with_reducible refine (whole_Neg_calls _ q.d _ (hzd.below (Fr.b (by assumption))) HLd.out).mono ?_); rintro e w3 ⟨z2, x2, HZ2, rfl, hZ2, hb3⟩; obtain ⟨v4, rfl, hr2, A2, c2, rfl, hN2⟩ := hZ2; replace hN2 := hN2.mono (Nat.le_trans (Nat.le_of_eq z0.symm) (Fr.size (by assumption))); have f2 := Fr.call (by assumption) hb3; obtain ⟨⟨x0, y0⟩, ⟨x1, y1⟩, ⟨x2, y2⟩, ⟨x3, y3⟩, g0, g1, g2, g3⟩ := (Fr.four f2 k0).cells))
    go_wp2
    have hQ : NQ (w.heap.size + 2) w3 (.agg #[.bool z1.neg, .slice A1 z1.ws.length c1, .bool z2.neg, .slice A2 z2.ws.length c2]) ⟨z1, z2⟩ := ⟨_, _, rfl, ⟨hr1, A1, c1, rfl, hN1.below hb3⟩, ⟨hr2, A2, c2, rfl, hN2⟩⟩
    refine bodyPost_ret (v := .agg #[.bool z1.neg, .slice A1 z1.ws.length c1, .bool z2.neg, .slice A2 z2.ws.length c2]) (by simp [results, Try.results116, go_sem, y0, y1, y2, y3]) rfl ⟨⟨z1, z2⟩, _, ?_, rfl, bl_put4 f2.b (by omega), Lib.hid fun W' hW' => ?_⟩
    rotate_left
    · obtain ⟨v5, v6, e, q1, q2⟩ := (hQ.put4 (k := w.heap.size + 1) (a := .bool z1.neg) (b := .slice A1 z1.ws.length c1) (c := .bool z2.neg) (d := .slice A2 z2.ws.length c2) (by omega))
      exact ⟨v5, v6, e, q1.sameF fun k h1 h2 => hW' k h1 (.inr (by omega)), q2.sameF fun k h1 h2 => hW' k h1 (.inr (by omega))⟩
    rw [HZ1.out, HZ2.out]; exact parts_neg HV.out rn rd
  · have h1 : sg = 0 := by rw [hsg, hs]; rfl
    subst h1
    have HV := Lib.hid hs
    clear hsg hs
    go_enter Try.func116, Try.ntmps116
    go_wp2_with (go_at_call 122; generalize hw0 : World.alloc _ _ = w0
                 have hb0 : Below w.heap.size w w0 := by subst hw0; exact bl_alloc2 (bl_alloc _ _) _
                 have t1 : Box4 w w0 (· = w.heap.size + 1) w.heap.size (.bool q.n.neg) (.slice An q.n.ws.length cn) (.bool q.d.neg) (.slice Ad q.d.ws.length cd) := Box4.mk (by omega) (by subst hw0; refine ⟨?_, ?_, ?_, ?_⟩ <;> go_simp)
                 have k0 : Four (w.heap.size + 1) w0 := by subst hw0; exact Four.alloc _ _ _ _ _ (by simp)
                 have f0 : Fr w w0 (· = w.heap.size + 1) w0 := Fr.start hb0
                 have z0 : w0.heap.size = w.heap.size + 2 := by subst hw0; simp
                 clear hw0
                 refine (hsign w0 (hzd.below hb0)).mono ?_; rintro e w1 ⟨rfl, hb1⟩; have f1 := f0.call hb1; obtain ⟨u0, u1, u2, u3⟩ := t1 _ f1; have z1 := f1.size)
    go_region_held3 (fun W => Fr w w0 (· = w.heap.size + 1) W) (first | assumption | exact Fr.drew (by assumption) | exact Fr.call (by assumption) (by assumption) | exact Fr.put4 f2 (by rfl) (by omega) _ _ _ _) (first
      | (go_at_call 115; (with_reducible refine (FromInt64_calls 1 _ (by omega) (by omega)).mono ?_); rintro e w3 ⟨z2, x2, HZ2, rfl, hZ2, hb3⟩; obtain ⟨v4, rfl, hr2, A2, c2, rfl, hN2⟩ := hZ2; replace hN2 := hN2.mono (Nat.le_trans (Nat.le_of_eq z0.symm) (Fr.size (by assumption))); have f2 := Fr.call (by assumption) hb3; obtain ⟨⟨x0, y0⟩, ⟨x1, y1⟩, ⟨x2, y2⟩, ⟨x3, y3⟩, g0, g1, g2, g3⟩ := (Fr.four f2 k0).cells))
    go_wp2
    have hb9 := bl_put4 (k := w.heap.size + 1) (a := .bool q.n.neg) (b := .slice An q.n.ws.length cn) (c := .bool z2.neg) (d := .slice A2 z2.ws.length c2) f2.b (by omega)
    have hQ : NW (w.heap.size + 2) w3 (.slice A2 z2.ws.length c2) z2.ws := ⟨hr2, A2, c2, rfl, hN2⟩
    refine bodyPost_ret (v := .agg #[.bool q.n.neg, .slice An q.n.ws.length cn, .bool z2.neg, .slice A2 z2.ws.length c2]) (by simp [results, Try.results116, go_sem, y0, y1, y2, y3]) rfl ⟨⟨q.n, z2⟩, _, ?_, rfl, hb9, Lib.hid fun W' hW' => ?_⟩
    rotate_left
    · obtain ⟨v5, v6, e, q1, q2⟩ := HA00.out
      injection e with e; injection e with e; injection e with _ e; injection e with e1 _; subst e1
      exact ⟨_, _, rfl, q1.sameB (bl_trans h00 hb9) fun k hk => hW' k (Nat.lt_of_lt_of_le hk (bl_trans h00 hb9).size) (.inl hk), (NW.put4 hQ (by omega)).sameF fun k h1 h2 => hW' k h1 (.inr (by omega))⟩
    rw [HZ2.out]; exact parts_zero HV.out
  · have h1 : sg = 1 := by rw [hsg, Int.sign_eq_one_of_pos hs]
    subst h1
    have HV := Lib.hid hs
    clear hsg hs
    go_enter Try.func116, Try.ntmps116
    go_wp2_with (go_at_call 122; generalize hw0 : World.alloc _ _ = w0
                 have hb0 : Below w.heap.size w w0 := by subst hw0; exact bl_alloc2 (bl_alloc _ _) _
                 have t1 : Box4 w w0 (· = w.heap.size + 1) w.heap.size (.bool q.n.neg) (.slice An q.n.ws.length cn) (.bool q.d.neg) (.slice Ad q.d.ws.length cd) := Box4.mk (by omega) (by subst hw0; refine ⟨?_, ?_, ?_, ?_⟩ <;> go_simp)
                 have k0 : Four (w.heap.size + 1) w0 := by subst hw0; exact Four.alloc _ _ _ _ _ (by simp)
                 have f0 : Fr w w0 (· = w.heap.size + 1) w0 := Fr.start hb0
                 have z0 : w0.heap.size = w.heap.size + 2 := by subst hw0; simp
                 clear hw0
                 refine (hsign w0 (hzd.below hb0)).mono ?_; rintro e w1 ⟨rfl, hb1⟩; have f1 := f0.call hb1; obtain ⟨u0, u1, u2, u3⟩ := t1 _ f1; have z1 := f1.size; obtain ⟨⟨x0, y0⟩, ⟨x1, y1⟩, ⟨x2, y2⟩, ⟨x3, y3⟩, g0, g1, g2, g3⟩ := (Fr.four f1 k0).cells)
    have hb9 := bl_put4 (k := w.heap.size + 1) (a := .bool q.n.neg) (b := .slice An q.n.ws.length cn) (c := .bool q.d.neg) (d := .slice Ad q.d.ws.length cd) f1.b (by omega)
    exact bodyPost_ret (v := .agg #[.bool q.n.neg, .slice An q.n.ws.length cn, .bool q.d.neg, .slice Ad q.d.ws.length cd]) (by simp [results, Try.results116, go_sem, y0, y1, y2, y3]) rfl ⟨⟨q.n, q.d⟩, _, parts_pos HV.out, rfl, hb9, Lib.hid fun W' hW' => by
      obtain ⟨v5, v6, e, q1, q2⟩ := HA00.out
      exact ⟨v5, v6, e, q1.sameB (bl_trans h00 hb9) fun k hk => hW' k (Nat.lt_of_lt_of_le hk (bl_trans h00 hb9).size) (.inl hk), q2.sameB (bl_trans h00 hb9) fun k hk => hW' k (Nat.lt_of_lt_of_le hk (bl_trans h00 hb9).size) (.inl hk)⟩⟩
theorem of_calls (va : Value) (q : Qr) (w : World) (ha : IsQ w va q) (hlen : q.S ≤ 35184372088832) : Calls Try.prog 116 #[va] w (PostP w q) :=
  (of_callsx va q w w ha (Below.refl _ _) hlen).mono fun e w' ⟨p, v, HP, he, hb, hH⟩ => ⟨p, v, HP, he, hH.out w' (fun _ _ _ => rfl), hb⟩
end Go.Proofs.Ytnmmgegnioihmaa
