/- Package whole: DivMod, GCD. -/
import Derived.Test.YtnmmgegnioihmaaWhole3
set_option linter.unusedVariables false
set_option linter.unusedSimpArgs false
namespace Go.Proofs.Ytnmmgegnioihmaa
open Go.RowKit

theorem ediv_pos_of {a b q r : Int} (hb : 0 < b) (h : r + b * q = a) (h0 : 0 ≤ r) (h1 : r < b) : a / b = q ∧ a % b = r := (Int.ediv_emod_unique hb).2 ⟨h, h0, h1⟩
theorem ediv_neg_of {a b q r : Int} (hb : 0 < b) (h : r + b * q = a) (h0 : 0 ≤ r) (h1 : r < b) : a / (-b) = -q ∧ a % (-b) = r := by
  rw [Int.ediv_neg, Int.emod_neg]; have := ediv_pos_of hb h h0 h1; exact ⟨by rw [this.1], this.2⟩
theorem zdm_pos {X Y : Nat} (hY : 0 < Y) : (X : Int) / (Y : Int) = ((X / Y : Nat) : Int) ∧ (X : Int) % (Y : Int) = ((X % Y : Nat) : Int) := by simp
theorem zdm_neg0 {X Y : Nat} (hY : 0 < Y) (h : X % Y = 0) : (-(X : Int)) / (Y : Int) = -((X / Y : Nat) : Int) ∧ (-(X : Int)) % (Y : Int) = 0 := by
  have e := Nat.div_add_mod X Y
  rw [h, Nat.add_zero] at e
  have e2 : (Y : Int) * ((X / Y : Nat) : Int) = (X : Int) := by rw [← e]; simp [Int.natCast_mul]; rw [Int.mul_ediv_cancel_left _ (by omega)]
  exact ediv_pos_of (by omega) (by rw [Int.mul_neg, e2]; omega) (by omega) (by omega)
theorem zdm_neg1 {X Y : Nat} (hY : 0 < Y) (h : 0 < X % Y) : (-(X : Int)) / (Y : Int) = -((X / Y + 1 : Nat) : Int) ∧ (-(X : Int)) % (Y : Int) = ((Y - X % Y : Nat) : Int) := by
  have e := Nat.div_add_mod X Y
  have hl := Nat.mod_lt X hY
  refine ediv_pos_of (by omega) ?_ (by omega) (by omega)
  generalize X % Y = m at *
  generalize X / Y = d at *
  subst e
  have e1 : ((Y - m : Nat) : Int) = (Y : Int) - (m : Int) := by omega
  rw [Int.mul_neg, e1, Int.natCast_add, Int.natCast_add, Int.natCast_mul, Int.mul_add]
  omega
/-- what DivMod's magnitudes are -/
def dmQ (b : Bool) (X Y : Nat) : Nat := if b && decide (0 < X % Y) then X / Y + 1 else X / Y
def dmR (b : Bool) (X Y : Nat) : Nat := if b && decide (0 < X % Y) then Y - X % Y else X % Y
theorem dm_val {xn yn : Bool} {X Y : Nat} (hY : 0 < Y) : (if (xn != yn) then -((dmQ xn X Y : Nat) : Int) else ((dmQ xn X Y : Nat) : Int)) = (if xn then -(X : Int) else X) / (if yn then -(Y : Int) else Y) ∧
    ((dmR xn X Y : Nat) : Int) = (if xn then -(X : Int) else X) % (if yn then -(Y : Int) else Y) := by
  have h1 := zdm_pos (X := X) hY
  unfold dmQ dmR
  cases xn
  · cases yn <;> simp
  · by_cases h : 0 < X % Y
    · have h2 := zdm_neg1 hY h
      rw [decide_eq_true h]
      cases yn
      · simp only [Bool.and_true, if_true, Bool.true_bne, Bool.not_false, Bool.false_eq_true, if_false]
        exact ⟨h2.1.symm, h2.2.symm⟩
      · simp only [Bool.and_true, if_true, Bool.true_bne, Bool.not_true, Bool.false_eq_true, if_false]
        rw [Int.ediv_neg, Int.emod_neg, h2.1, h2.2]
        exact ⟨(Int.neg_neg _).symm, rfl⟩
    · have h2 := zdm_neg0 hY (Nat.eq_zero_of_not_pos h)
      have h3 : X % Y = 0 := Nat.eq_zero_of_not_pos h
      rw [decide_eq_false h]
      cases yn
      · simp only [Bool.and_false, if_true, Bool.true_bne, Bool.not_false, Bool.false_eq_true, if_false]
        rw [h2.1, h2.2, h3]
        exact ⟨rfl, rfl⟩
      · simp only [Bool.and_false, if_true, Bool.true_bne, Bool.not_true, Bool.false_eq_true, if_false]
        rw [Int.ediv_neg, Int.emod_neg, h2.1, h2.2, h3]
        exact ⟨(Int.neg_neg _).symm, rfl⟩
theorem pos_words {n : Nat} : 0 < ((wordsOf n).length : Int) ↔ 0 < n := by
  have h := trim_len_zero (rng_wordsOf n)
  rw [trim_words, val_wordsOf] at h
  omega
def PostDM (w : World) (DQ DR : Int) (e : Ending) (w' : World) : Prop := ∃ q r v1 v2, Hid (q = canZ DQ) ∧ Hid (r = canZ DR) ∧ e = .returned (.tuple #[v1, v2, .int .i64 0]) ∧ NZ w.heap.size w' v1 q ∧ NZ w.heap.size w' v2 r ∧ Below w.heap.size w w'
theorem dm_post {w W : World} {DQ DR : Int} {n1 k1 k2 : Nat} {v1 v2 : Value} {q r : Zr} {a b c d : Value} (hq : NZ n1 W v1 q) (hr : NZ n1 W v2 r) (eq : q = canZ DQ) (er : r = canZ DR) (hb : Below w.heap.size w W) (h1 : w.heap.size ≤ k1) (h2 : k1 < n1) (h3 : w.heap.size ≤ k2) (h4 : k2 < n1) :
    PostDM w DQ DR (.returned (.tuple #[v1, v2, .int .i64 0])) ((((W.setCell ⟨k1, 0, none⟩ a).setCell ⟨k1, 1, none⟩ b).setCell ⟨k2, 0, none⟩ c).setCell ⟨k2, 1, none⟩ d) :=
  ⟨q, r, v1, v2, eq, er, rfl, ((((hq.setCell (p := ⟨k1, 0, none⟩) h2 a).setCell (p := ⟨k1, 1, none⟩) h2 b).setCell (p := ⟨k2, 0, none⟩) h4 c).setCell (p := ⟨k2, 1, none⟩) h4 d).mono (by omega),
    ((((hr.setCell (p := ⟨k1, 0, none⟩) h2 a).setCell (p := ⟨k1, 1, none⟩) h2 b).setCell (p := ⟨k2, 0, none⟩) h4 c).setCell (p := ⟨k2, 1, none⟩) h4 d).mono (by omega),
    (((hb.setCell (p := ⟨k1, 0, none⟩) h1 a).setCell (p := ⟨k1, 1, none⟩) h1 b).setCell (p := ⟨k2, 0, none⟩) h3 c).setCell (p := ⟨k2, 1, none⟩) h3 d⟩
set_option maxHeartbeats 2000000 in
theorem DivMod_calls (va vb : Value) (x y : Zr) (w : World) (ha : IsZ w va x) (hb : IsZ w vb y) (h0 : y.val ≠ 0) (hlen : x.ws.length + y.ws.length + 4 ≤ 35184372088832) :
    Calls Try.prog 151 #[va, vb] w (PostDM w (x.val / y.val) (x.val % y.val)) := by
  obtain ⟨xn, xs⟩ := x
  obtain ⟨yn, ys⟩ := y
  obtain ⟨v1, rfl, hz⟩ := ha
  obtain ⟨v2, rfl, hy⟩ := hb
  dsimp only at hz hy hlen ⊢
  have hY : 0 < val ys := by
    rcases Nat.eq_zero_or_pos (val ys) with h | h
    · exact absurd (by unfold Zr.val; dsimp only; rw [h]; cases yn <;> rfl) h0
    · exact h
  have hdm := dm_val (xn := xn) (yn := yn) (X := val xs) hY
  have hdm2 : (if (xn != yn) then -((dmQ xn (val xs) (val ys) : Nat) : Int) else ((dmQ xn (val xs) (val ys) : Nat) : Int)) = (⟨xn, xs⟩ : Zr).val / (⟨yn, ys⟩ : Zr).val ∧ ((dmR xn (val xs) (val ys) : Nat) : Int) = (⟨xn, xs⟩ : Zr).val % (⟨yn, ys⟩ : Zr).val := hdm
  generalize (⟨xn, xs⟩ : Zr).val / (⟨yn, ys⟩ : Zr).val = DQ at *
  generalize (⟨xn, xs⟩ : Zr).val % (⟨yn, ys⟩ : Zr).val = DR at *
  have HDM := Lib.hid hdm2
  clear hdm hdm2 h0
  obtain ⟨rx, Ax, cx, rfl, hrx⟩ := hz
  obtain ⟨ry, Ay, cy, rfl, hry⟩ := hy
  have hlen2 : (trim xs).length + (trim ys).length + 4 ≤ 35184372088832 := by have := trim_len xs; have := trim_len ys; omega
  have HL := Lib.hid hlen2
  have hne : trim ys ≠ [] := by
    intro h
    have := (trim_len_zero ry).1 (by rw [h]; rfl)
    omega
  have hne0 : (((trim ys).length : Int) == 0) = false := by
    rw [beq_eq_false_iff_ne]
    intro h
    exact hne (List.length_eq_zero_iff.1 (by omega))
  clear hlen hlen2
  go_enter Try.func151, Try.ntmps151
  go_wp2
  generalize hw0 : World.alloc _ _ = w0
  have hb0 : Below w.heap.size w w0 := by subst hw0; exact bl_alloc2 (bl_alloc2 (bl_alloc2 (bl_alloc _ _) _) _) _
  have t1 : w0.cell? ⟨w.heap.size, 0, none⟩ = some (.bool xn) ∧ w0.cell? ⟨w.heap.size, 1, none⟩ = some (.slice Ax xs.length cx) := by subst hw0; refine ⟨?_, ?_⟩ <;> go_simp
  have t2 : w0.cell? ⟨w.heap.size + 1, 0, none⟩ = some (.bool yn) ∧ w0.cell? ⟨w.heap.size + 1, 1, none⟩ = some (.slice Ay ys.length cy) := by subst hw0; refine ⟨?_, ?_⟩ <;> go_simp
  have k1 : Two (w.heap.size + 2) w0 := by subst hw0; exact (Two.alloc _ _ _ (by simp)).below (bl_alloc _ _)
  have k2 : Two (w.heap.size + 3) w0 := by subst hw0; exact Two.alloc _ _ _ (by simp)
  have z0 : w0.heap.size = w.heap.size + 4 := by subst hw0; simp
  clear hw0
  obtain ⟨u1, u2⟩ := t1
  obtain ⟨u3, u4⟩ := t2
  have hq1 := hrx.below hb0
  have hq2 := hry.below hb0
  go_quiet (first
    | (go_at_call 144; exact trim_quiet hq1)
    | (go_at_call 144; exact trim_quiet hq2))
  have hXI : IsW (w0.drewN nq) (.slice Ax (trim xs).length cx) (trim xs) := (hq1.trimW rx).below (bl_drewN w0 nq)
  have hYI : IsW (w0.drewN nq) (.slice Ay (trim ys).length cy) (trim ys) := (hq2.trimW ry).below (bl_drewN w0 nq)
  have hb1 : Below w.heap.size w (w0.drewN nq) := bl_trans hb0 (bl_drewN w0 nq)
  replace k1 := k1.below (bl_drewN w0 nq)
  replace k2 := k2.below (bl_drewN w0 nq)
  have z1 : (w0.drewN nq).heap.size = w.heap.size + 4 := z0
  replace u1 : (w0.drewN nq).cell? ⟨w.heap.size, 0, none⟩ = some (.bool xn) := u1
  replace u3 : (w0.drewN nq).cell? ⟨w.heap.size + 1, 0, none⟩ = some (.bool yn) := u3
  have hv1 := val_trim rx
  have hv2 := val_trim ry
  clear u2 u4 hq1 hq2 hb0 z0 hrx hry
  generalize w0.drewN nq = wq at *
  have hdv := whole_div_calls _ _ _ _ _ hXI hYI (trim_trim ry) hne HL.out
  rw [hv1, hv2] at hdv
  obtain ⟨D, hD⟩ : ∃ D, D = val xs / val ys := ⟨_, rfl⟩
  obtain ⟨M, hM⟩ : ∃ M, M = val xs % val ys := ⟨_, rfl⟩
  rw [← hD, ← hM] at hdv
  have HD := Lib.hid hD
  have HM := Lib.hid hM
  have HMY : Hid (M < val ys) := by have := Nat.mod_lt (val xs) hY; rw [← hM] at this; exact Lib.hid this
  clear hD hM hY
  by_cases hc : xn = true ∧ (0 : Int) < ((wordsOf M).length : Int)
  · obtain ⟨rfl, hm⟩ := hc
    have hm0 : 0 < M := pos_words.1 hm
    have HM0 := Lib.hid hm0
    have hla : max (wordsOf D).length [1].length + 1 ≤ 35184372088832 := by
      have h1 : D ≤ val (trim xs) := by rw [hv1, HD.out]; exact Nat.div_le_self _ _
      have h2 := wordsOf_len_mono h1
      rw [← trim_eq hXI.1, trim_trim rx] at h2
      have := HL.out
      simp only [List.length_cons, List.length_nil]
      omega
    have hls : max (trim ys).length (wordsOf M).length + 2 ≤ 35184372088832 := by
      have h1 : M ≤ val (trim ys) := by rw [hv2]; exact Nat.le_of_lt HMY.out
      have h2 := wordsOf_len_mono h1
      rw [← trim_eq hYI.1, trim_trim ry] at h2
      have := HL.out
      omega
    clear hm0
    go_wp2_with (first
      | (go_at_call 169; refine hdv.mono ?_; rintro e w1 ⟨qs, rs, v1, v2, HQ, HR, rfl, hN1, hN2, hbd⟩; obtain rfl := HQ.out; obtain rfl := HR.out; obtain ⟨rq, Aq, cq, rfl, hNq⟩ := hN1; obtain ⟨rr, Ar, cr, rfl, hNr⟩ := hN2
         replace u1 := bl_cell hbd u1; replace u3 := bl_cell hbd u3)
      | (go_at_call 147; refine (whole_add_calls _ _ _ _ _ ((hNq.is_W rq).below (bl_alloc _ _)) (lit1_W _ _ (x := 1) (by omega)) hla).mono ?_; rintro e w2 ⟨xa, va, HA, rfl, hNa, hba⟩; obtain ⟨ra, Aa, caa, rfl, hNa⟩ := hNa
         replace u1 := bl_cell (bl_trans (bl_alloc _ _) hba) u1; replace u3 := bl_cell (bl_trans (bl_alloc _ _) hba) u3)
      | (go_at_call 149; refine (whole_sub_calls _ _ _ _ _ (hYI.below (bl_trans hbd (bl_trans (bl_alloc _ _) hba))) (((hNr.is_W rr).below (bl_trans (bl_alloc _ _) hba))) hls).mono ?_; rintro e w3 ⟨xss, vs, HS, rfl, hNs, hbs⟩; obtain ⟨rs, As, csx, rfl, hNs⟩ := hNs
         replace u1 := bl_cell hbs u1; replace u3 := bl_cell hbs u3)
      | (go_at_call 141; (with_reducible refine (made_at _ _ _ _ _ (hNa.toRow.below hbs)).mono ?_); rintro e w4 ⟨rfl, hb4⟩; replace u1 := bl_cell hb4 u1; replace u3 := bl_cell hb4 u3)
      | (go_at_call 141; (with_reducible refine (made_at _ _ _ _ _ (hNs.toRow.below hb4)).mono ?_); rintro e w5 ⟨rfl, hb5⟩
         have hbt := bl_trans hbd (bl_trans (bl_alloc _ _) (bl_trans hba (bl_trans hbs (bl_trans hb4 hb5))))
         obtain ⟨⟨x0, y0⟩, ⟨x1, y1⟩, g0, g1⟩ := (k1.below hbt).cells; obtain ⟨⟨x2, y2⟩, ⟨x3, y3⟩, g2, g3⟩ := (k2.below hbt).cells))
    have hdq : dmQ true (val xs) (val ys) = D + 1 := by unfold dmQ; rw [← HD.out, ← HM.out]; simp [HM0.out]
    have hdr : dmR true (val xs) (val ys) = val ys - M := by unfold dmR; rw [← HM.out]; simp [HM0.out]
    have hfin := HDM.out
    rw [hdq, hdr] at hfin
    have hqv : val xa = D + 1 := by rw [HA.out, addW_val rq (Rng.cons (by omega) Rng.nil), val_wordsOf, val_single]
    have hrv : val xss = val ys - M := by rw [HS.out, subW_val hYI.1 rr (by rw [hv2, val_wordsOf]; exact Nat.le_of_lt HMY.out), hv2, val_wordsOf]
    have hZq := made_NZ (!yn) ra (((hNa.below hbs).below hb4).below hb5) (i := DQ) (by rw [hqv, ← hfin.1]; cases yn <;> rfl)
    have hZr := made_NZ false rs ((hNs.below hb4).below hb5) (i := DR) (by rw [hrv, ← hfin.2]; rfl)
    have s1 := hbd.size
    have s2 := hba.size
    refine bodyPost_ret (v := .tuple #[.agg #[.bool _, .slice _ _ _], .agg #[.bool _, .slice _ _ _], .int .i64 0]) (by simp [results, Try.results151, go_sem, y0, y1, y2, y3]) rfl (dm_post (n1 := wq.heap.size) (hZq.mono (Nat.le_trans s1 (bl_alloc _ _).size)) (hZr.mono (Nat.le_trans s1 (Nat.le_trans (bl_alloc _ _).size s2))) rfl rfl (bl_trans hb1 hbt) (by omega) (by omega) (by omega) (by omega))
  · cases xn
    · have hdq : Hid (dmQ false (val xs) (val ys) = D) := Lib.hid (by unfold dmQ; rw [← HD.out]; rfl)
      have hdr : Hid (dmR false (val xs) (val ys) = M) := Lib.hid (by unfold dmR; rw [← HM.out]; rfl)
      clear hc
      go_wp2_with (first
        | (go_at_call 169; refine hdv.mono ?_; rintro e w1 ⟨qs, rs, v1, v2, HQ, HR, rfl, hN1, hN2, hbd⟩; obtain rfl := HQ.out; obtain rfl := HR.out; obtain ⟨rq, Aq, cq, rfl, hNq⟩ := hN1; obtain ⟨rr, Ar, cr, rfl, hNr⟩ := hN2
           replace u1 := bl_cell hbd u1; replace u3 := bl_cell hbd u3)
        | (go_at_call 141; (with_reducible refine (made_at _ _ _ _ _ hNq.toRow).mono ?_); rintro e w4 ⟨rfl, hb4⟩; replace u1 := bl_cell hb4 u1; replace u3 := bl_cell hb4 u3)
        | (go_at_call 141; (with_reducible refine (made_at _ _ _ _ _ (hNr.toRow.below hb4)).mono ?_); rintro e w5 ⟨rfl, hb5⟩
           have hbt := bl_trans hbd (bl_trans hb4 hb5)
           obtain ⟨⟨x0, y0⟩, ⟨x1, y1⟩, g0, g1⟩ := (k1.below hbt).cells; obtain ⟨⟨x2, y2⟩, ⟨x3, y3⟩, g2, g3⟩ := (k2.below hbt).cells))
      have hfin := HDM.out
      rw [hdq.out, hdr.out] at hfin
      have hbds := hbd.size
      have hZq := made_NZ yn rq ((hNq.below hb4).below hb5) (i := DQ) (by rw [val_wordsOf, ← hfin.1]; cases yn <;> rfl)
      have hZr := made_NZ false rr ((hNr.below hb4).below hb5) (i := DR) (by rw [val_wordsOf, ← hfin.2]; rfl)
      refine bodyPost_ret (v := .tuple #[.agg #[.bool _, .slice _ _ _], .agg #[.bool _, .slice _ _ _], .int .i64 0]) (by simp [results, Try.results151, go_sem, y0, y1, y2, y3]) rfl (dm_post (n1 := wq.heap.size) (hZq.mono (by omega)) (hZr.mono (by omega)) rfl rfl (bl_trans hb1 hbt) (by omega) (by omega) (by omega) (by omega))
    · have hm : ¬ (0 : Int) < ((wordsOf M).length : Int) := fun h => hc ⟨rfl, h⟩
      have hM0 : ¬ 0 < M := fun h => hm (pos_words.2 h)
      have hdq : Hid (dmQ true (val xs) (val ys) = D) := Lib.hid (by unfold dmQ; rw [← HD.out, ← HM.out]; simp [hM0])
      have hdr : Hid (dmR true (val xs) (val ys) = M) := Lib.hid (by unfold dmR; rw [← HM.out]; simp [hM0])
      have hmd : decide ((0 : Int) < ((wordsOf M).length : Int)) = false := by simpa using hm
      clear hc hM0
      go_wp2_with (first
        | (go_at_call 169; refine hdv.mono ?_; rintro e w1 ⟨qs, rs, v1, v2, HQ, HR, rfl, hN1, hN2, hbd⟩; obtain rfl := HQ.out; obtain rfl := HR.out; obtain ⟨rq, Aq, cq, rfl, hNq⟩ := hN1; obtain ⟨rr, Ar, cr, rfl, hNr⟩ := hN2
           replace u1 := bl_cell hbd u1; replace u3 := bl_cell hbd u3)
        | (go_at_call 141; (with_reducible refine (made_at _ _ _ _ _ hNq.toRow).mono ?_); rintro e w4 ⟨rfl, hb4⟩; replace u1 := bl_cell hb4 u1; replace u3 := bl_cell hb4 u3)
        | (go_at_call 141; (with_reducible refine (made_at _ _ _ _ _ (hNr.toRow.below hb4)).mono ?_); rintro e w5 ⟨rfl, hb5⟩
           have hbt := bl_trans hbd (bl_trans hb4 hb5)
           obtain ⟨⟨x0, y0⟩, ⟨x1, y1⟩, g0, g1⟩ := (k1.below hbt).cells; obtain ⟨⟨x2, y2⟩, ⟨x3, y3⟩, g2, g3⟩ := (k2.below hbt).cells))
      have hfin := HDM.out
      rw [hdq.out, hdr.out] at hfin
      have hbds := hbd.size
      have hZq := made_NZ (!yn) rq ((hNq.below hb4).below hb5) (i := DQ) (by rw [val_wordsOf, ← hfin.1]; cases yn <;> rfl)
      have hZr := made_NZ false rr ((hNr.below hb4).below hb5) (i := DR) (by rw [val_wordsOf, ← hfin.2]; rfl)
      refine bodyPost_ret (v := .tuple #[.agg #[.bool _, .slice _ _ _], .agg #[.bool _, .slice _ _ _], .int .i64 0]) (by simp [results, Try.results151, go_sem, y0, y1, y2, y3]) rfl (dm_post (n1 := wq.heap.size) (hZq.mono (by omega)) (hZr.mono (by omega)) rfl rfl (bl_trans hb1 hbt) (by omega) (by omega) (by omega) (by omega))
theorem gcd_step (X Y : Nat) : Nat.gcd X Y = Nat.gcd Y (X % Y) := by rw [Nat.gcd_comm X Y, Nat.gcd_rec Y X, Nat.gcd_comm]
set_option maxHeartbeats 2000000 in
theorem GCD_calls (va vb : Value) (x y : Zr) (w : World) (ha : IsZ w va x) (hb : IsZ w vb y) (hlen : 2 * (x.ws.length + y.ws.length) + 4 ≤ 35184372088832) :
    Calls Try.prog 150 #[va, vb] w (PostZ w (Int.gcd x.val y.val : Nat)) := by
  obtain ⟨xn, xs⟩ := x
  obtain ⟨yn, ys⟩ := y
  obtain ⟨v1, rfl, hz⟩ := ha
  obtain ⟨v2, rfl, hy⟩ := hb
  dsimp only at hz hy hlen
  have hG : (Int.gcd (⟨xn, xs⟩ : Zr).val (⟨yn, ys⟩ : Zr).val : Nat) = Nat.gcd (val xs) (val ys) := by
    unfold Zr.val Int.gcd
    cases xn <;> cases yn <;> simp
  rw [hG]
  clear hG
  obtain ⟨rx, Ax, cx, rfl, hrx⟩ := hz
  obtain ⟨ry, Ay, cy, rfl, hry⟩ := hy
  obtain ⟨Ln, hLn1, hLn2, hLn⟩ : ∃ Ln, (trim xs).length ≤ Ln ∧ (trim ys).length ≤ Ln ∧ 2 * Ln + 4 ≤ 35184372088832 := ⟨xs.length + ys.length, by have := trim_len xs; omega, by have := trim_len ys; omega, by omega⟩
  have HL := Lib.hid hLn
  clear hLn hlen
  have hwx := trim_eq rx
  have hwy := trim_eq ry
  go_enter Try.func150, Try.ntmps150
  go_wp2
  generalize hw0 : World.alloc _ _ = w0
  have hb0 : Below w.heap.size w w0 := by subst hw0; exact bl_alloc2 (bl_alloc2 (bl_alloc _ _) _) _
  have t1 : w0.cell? ⟨w.heap.size, 1, none⟩ = some (.slice Ax xs.length cx) := by subst hw0; go_simp
  have t2 : w0.cell? ⟨w.heap.size + 1, 1, none⟩ = some (.slice Ay ys.length cy) := by subst hw0; go_simp
  have k1 : Two (w.heap.size + 2) w0 := by subst hw0; exact Two.alloc _ _ _ (by simp)
  have z0 : w0.heap.size = w.heap.size + 3 := by subst hw0; simp
  clear hw0
  have hq1 := hrx.below hb0
  have hq2 := hry.below hb0
  go_quiet (first
    | (go_at_call 144; exact trim_quiet hq1)
    | (go_at_call 144; exact trim_quiet hq2))
  have hXI : IsW (w0.drewN nq) (.slice Ax (trim xs).length cx) (trim xs) := (hq1.trimW rx).below (bl_drewN w0 nq)
  have hYI : IsW (w0.drewN nq) (.slice Ay (trim ys).length cy) (trim ys) := (hq2.trimW ry).below (bl_drewN w0 nq)
  have hb1 : Below w.heap.size w (w0.drewN nq) := bl_trans hb0 (bl_drewN w0 nq)
  replace k1 := k1.below (bl_drewN w0 nq)
  have z1 : (w0.drewN nq).heap.size = w.heap.size + 3 := z0
  clear t1 t2 hq1 hq2 hb0 z0 hrx hry
  generalize w0.drewN nq = wq at *
  rw [hwx] at hXI hLn1
  rw [hwy] at hYI hLn2
  rw [hwx, hwy]
  generalize val xs = X0 at *
  generalize val ys = Y0 at *
  clear hwx hwy
  go_wp2
  go_loopg [5, 6] Y0 (fun Y vx vy wr => ∃ X, Hid (Nat.gcd X Y = Nat.gcd X0 Y0) ∧ (wordsOf X).length ≤ Ln ∧ (wordsOf Y).length ≤ Ln ∧ IsW wr vx (wordsOf X) ∧ IsW wr vy (wordsOf Y) ∧ Below wq.heap.size wq wr)
  case atStart => exact ⟨X0, rfl, hLn1, hLn2, hXI, hYI, Below.refl _ _⟩
  case round =>
    obtain ⟨X, HG, hl1, hl2, hx, hy, hbr⟩ := hrel
    obtain ⟨rX, Bx, dx, rfl, hrX⟩ := hx
    obtain ⟨rY, By, dy, rfl, hrY⟩ := hy
    by_cases hgt : (0 : Int) < ((wordsOf gk).length : Int)
    · have hY := pos_words.1 hgt
      have hne : wordsOf gk ≠ [] := by intro h; rw [h] at hgt; simp at hgt
      have hdv := whole_div_calls _ _ _ _ _ (⟨rX, Bx, dx, rfl, hrX⟩ : IsW wr (.slice Bx (wordsOf X).length dx) (wordsOf X)) (⟨rY, By, dy, rfl, hrY⟩ : IsW wr (.slice By (wordsOf gk).length dy) (wordsOf gk)) (trim_words _) hne (by have := HL.out; omega)
      rw [val_wordsOf, val_wordsOf] at hdv
      have hlt := Nat.mod_lt X hY
      have hstep := gcd_step X gk
      rw [HG.out] at hstep
      have HS := Lib.hid hstep
      have HLT := Lib.hid hlt
      clear hstep hY hlt
      generalize X % gk = M at *
      generalize X / gk = D at *
      go_wp2_with (go_at_call 169; refine hdv.mono ?_; rintro e w1 ⟨qs, rs, v1, v2, HQ, HR, rfl, hN1, hN2, hbd⟩; obtain rfl := HQ.out; obtain rfl := HR.out; obtain ⟨rq, Aq, cq, rfl, hNq⟩ := hN1; obtain ⟨rr, Ar, cr, rfl, hNr⟩ := hN2)
      go_roundg M
      case measure => exact HLT.out
      case rel => exact ⟨gk, HS.out.symm, hl2, Nat.le_trans (wordsOf_len_mono (Nat.le_of_lt HLT.out)) hl2, ⟨rY, By, dy, rfl, hrY.below hbd⟩, ⟨rr, Ar, cr, rfl, hNr.toRow⟩, bl_trans hbr hbd⟩
    · have h0 : gk = 0 := by
        rcases Nat.eq_zero_or_pos gk with h | h
        · exact h
        · exact absurd (pos_words.2 h) hgt
      subst h0
      have hX : X = Nat.gcd X0 Y0 := by rw [← HG.out, Nat.gcd_zero_right]
      have HX := Lib.hid hX
      clear hX
      have hXW : IsW wr (.slice Bx (wordsOf X).length dx) (wordsOf X) := ⟨rX, Bx, dx, rfl, hrX⟩
      have hlX : (wordsOf X).length ≤ 35184372088832 := by have := HL.out; omega
      go_wp2_with (first
        | (go_at_call 166; (with_reducible refine (Clone_calls _ (wordsOf X) _ hXW hlX).mono ?_); rintro e w1 ⟨ys, v2, hy, rfl, r1, hb2⟩; obtain ⟨hr, A, c, rfl, hN⟩ := r1)
        | (go_at_call 141; (with_reducible refine (made_at _ _ _ _ _ hN.toRow).mono ?_); rintro e w2 ⟨rfl, hb3⟩; obtain ⟨⟨x0, y0⟩, ⟨x1, y1⟩, g0, g1⟩ := (k1.below (bl_trans hbr (bl_trans hb2 hb3))).cells))
      have hZ := made_NZ false hr (hN.below hb3) (i := (Nat.gcd X0 Y0 : Nat)) (by rw [hy.out, val_wordsOf, HX.out]; rfl)
      have hs := hbr.size
      refine bodyPost_ret (v := .agg #[.bool _, .slice _ _ _]) (by simp [results, Try.results150, go_sem, y0, y1]) rfl (postZ_put2 hZ rfl (bl_trans hb1 (bl_trans hbr (bl_trans hb2 hb3))) (by omega) (by omega))
end Go.Proofs.Ytnmmgegnioihmaa
