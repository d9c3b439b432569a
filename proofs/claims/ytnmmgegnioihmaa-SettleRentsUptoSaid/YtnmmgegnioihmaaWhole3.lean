/- Package whole: Add, Sub, Mul, Cmp, DivMod, GCD. -/
import Derived.Test.YtnmmgegnioihmaaDiv2
set_option linter.unusedVariables false
set_option linter.unusedSimpArgs false
namespace Go.Proofs.Ytnmmgegnioihmaa
open Go.RowKit

theorem trim_quiet {A : Option Addr} {c n : Nat} {xs : List Nat} {w : World} (h : Row encW w A c xs) : Calls Try.prog 144 #[.slice A xs.length c] (w.drewN n) fun e w'' => e = .returned (.slice A (trim xs).length c) ∧ ∃ m, w'' = w.drewN m :=
  (trim_at A c xs (w.drewN n) (h.same fun _ _ => rfl)).mono fun e w' ⟨he, hw⟩ => ⟨he, n, hw.symm⟩
theorem bl_drewN (w : World) (n : Nat) : Below w.heap.size w (w.drewN n) := ⟨rfl, rfl, rfl, Nat.le_refl _, fun _ _ => rfl⟩
theorem Row.trimW {A : Option Addr} {c : Nat} {xs : List Nat} {w : World} (h : Row encW w A c xs) (hr : Rng xs) : IsW w (.slice A (trim xs).length c) (trim xs) := by
  obtain ⟨k, hk, e⟩ := trim_prefix xs
  exact ⟨by rw [e]; exact hr.take k, A, c, rfl, by rw [e]; exact h.take k⟩
theorem trim_trim {xs : List Nat} (h : Rng xs) : trim (trim xs) = trim xs := by rw [trim_eq h, trim_words]
theorem val_made {neg : Bool} {xs : List Nat} {i : Int} (h : (if neg then -(val xs : Int) else (val xs : Int)) = i) (hr : Rng xs) : (⟨neg && decide (0 < (trim xs).length), trim xs⟩ : Zr) = canZ i := by rw [made_eq _ _ hr, h]
theorem zmul_val (x y : Zr) (v : Nat) (h : v = val x.ws * val y.ws) : (if (x.neg != y.neg) then -(v : Int) else (v : Int)) = x.val * y.val := by
  subst h
  unfold Zr.val
  cases x.neg <;> cases y.neg <;> simp [Int.neg_mul, Int.mul_neg, Int.neg_neg]
set_option maxHeartbeats 1000000 in
theorem whole_Mul_calls (va vb : Value) (x y : Zr) (w : World) (ha : IsZ w va x) (hb : IsZ w vb y) (hlen : x.ws.length + y.ws.length ≤ 35184372088832) :
    Calls Try.prog 118 #[va, vb] w (PostZ w (x.val * y.val)) := by
  obtain ⟨v1, rfl, hz⟩ := ha
  obtain ⟨v2, rfl, hy⟩ := hb
  have HL := Lib.hid hlen
  clear hlen
  go_enter Try.func118, Try.ntmps118
  go_wp2
  generalize hw0 : World.alloc _ _ = w0
  have hb0 : Below w.heap.size w w0 := by subst hw0; exact bl_alloc2 (bl_alloc2 (bl_alloc _ _) _) _
  have t1 : Box2 w w0 (· = w.heap.size + 2) w.heap.size (.bool x.neg) v1 := Box2.mk (by omega) (by subst hw0; refine ⟨?_, ?_⟩ <;> go_simp)
  have t2 : Box2 w w0 (· = w.heap.size + 2) (w.heap.size + 1) (.bool y.neg) v2 := Box2.mk (by omega) (by subst hw0; refine ⟨?_, ?_⟩ <;> go_simp)
  have k0 : Two (w.heap.size + 2) w0 := by subst hw0; exact Two.alloc _ _ _ (by simp)
  have f0 : Fr w w0 (· = w.heap.size + 2) w0 := Fr.start hb0
  have z0 : w0.heap.size = w.heap.size + 3 := by subst hw0; simp
  clear hw0
  go_region_held3 (fun W => Fr w w0 (· = w.heap.size + 2) W) (first | assumption | exact f0.drew | exact Fr.call (by assumption) (by assumption) | exact Fr.put2 f2 (by rfl) (by omega) _ _) (first
    | (go_at_call 144; (with_reducible refine (trim_calls (hz.below (Fr.b (by assumption)))).mono ?_); rintro e w1 ⟨vx, rfl, rfl, hx, -⟩)
    | (go_at_call 144; (with_reducible refine (trim_calls (hy.below (Fr.b (by assumption)))).mono ?_); rintro e w1 ⟨vy, rfl, rfl, hv, -⟩)
    | (go_at_call 143; (with_reducible refine (whole_mul_calls _ _ _ _ _ hx hv (Nat.le_trans (Nat.add_le_add (trim_len _) (trim_len _)) HL.out)).mono ?_); rintro e w2 ⟨os, vo, HM, rfl, ho, hb1⟩; obtain ⟨hr, A, c, rfl, hN⟩ := ho)
    | (go_at_call 141; (with_reducible refine (made_at _ _ _ _ _ hN.toRow).mono ?_); rintro e w2 ⟨rfl, hb2⟩; have f2 := Fr.call (by assumption) hb2; obtain ⟨⟨x0, y0⟩, ⟨x1, y1⟩, g0, g1⟩ := (Fr.two f2 k0).cells))
  go_wp2
  have hZ := made_NZ (!(x.neg == y.neg)) hr (hN.below hb2) (i := x.val * y.val) (zmul_val x y _ (by rw [HM.out.final, val_trim hz.1, val_trim hy.1]))
  refine bodyPost_ret (v := .agg #[.bool _, .slice _ _ _]) (by simp [results, Try.results118, go_sem, y0, y1]) rfl (postZ_put2 hZ rfl f2.b (by omega) (by simp; omega))

theorem zadd_same {x y : Zr} (h : x.neg = y.neg) : (if x.neg then -((val x.ws + val y.ws : Nat) : Int) else ((val x.ws + val y.ws : Nat) : Int)) = x.val + y.val := by
  unfold Zr.val
  rw [← h]
  cases x.neg <;> simp <;> omega
theorem zadd_ge {x y : Zr} (h : (x.neg == y.neg) = false) (hc : val y.ws ≤ val x.ws) : (if x.neg then -((val x.ws - val y.ws : Nat) : Int) else ((val x.ws - val y.ws : Nat) : Int)) = x.val + y.val := by
  unfold Zr.val
  cases hx : x.neg <;> cases hy : y.neg <;> rw [hx, hy] at h <;> simp at h ⊢ <;> omega
theorem zadd_lt {x y : Zr} (h : (x.neg == y.neg) = false) (hc : val x.ws ≤ val y.ws) : (if y.neg then -((val y.ws - val x.ws : Nat) : Int) else ((val y.ws - val x.ws : Nat) : Int)) = x.val + y.val := by
  unfold Zr.val
  cases hx : x.neg <;> cases hy : y.neg <;> rw [hx, hy] at h <;> simp at h ⊢ <;> omega
set_option maxHeartbeats 1000000 in
theorem whole_Add_calls (va vb : Value) (x y : Zr) (w : World) (ha : IsZ w va x) (hb : IsZ w vb y) (hlen : x.ws.length + y.ws.length + 2 ≤ 35184372088832) :
    Calls Try.prog 125 #[va, vb] w (PostZ w (x.val + y.val)) := by
  obtain ⟨v1, rfl, hz⟩ := ha
  obtain ⟨v2, rfl, hy⟩ := hb
  have hl1 : max (trim x.ws).length (trim y.ws).length + 2 ≤ 35184372088832 := by have := trim_len x.ws; have := trim_len y.ws; omega
  have hl2 : max (trim y.ws).length (trim x.ws).length + 2 ≤ 35184372088832 := by have := trim_len x.ws; have := trim_len y.ws; omega
  have HL1 := Lib.hid hl1
  have HL2 := Lib.hid hl2
  have HL3 : Hid (max (trim x.ws).length (trim y.ws).length + 1 ≤ 35184372088832) := Nat.le_trans (Nat.le_succ _) hl1
  clear hlen hl1 hl2
  obtain ⟨rx, Ax, cx, rfl, hrx⟩ := hz
  obtain ⟨ry, Ay, cy, rfl, hry⟩ := hy
  go_enter Try.func125, Try.ntmps125
  go_wp2
  generalize hw0 : World.alloc _ _ = w0
  have hb0 : Below w.heap.size w w0 := by subst hw0; exact bl_alloc2 (bl_alloc2 (bl_alloc _ _) _) _
  have t1 : Box2 w w0 (· = w.heap.size + 2) w.heap.size (.bool x.neg) (.slice Ax x.ws.length cx) := Box2.mk (by omega) (by subst hw0; refine ⟨?_, ?_⟩ <;> go_simp)
  have t2 : Box2 w w0 (· = w.heap.size + 2) (w.heap.size + 1) (.bool y.neg) (.slice Ay y.ws.length cy) := Box2.mk (by omega) (by subst hw0; refine ⟨?_, ?_⟩ <;> go_simp)
  have k0 : Two (w.heap.size + 2) w0 := by subst hw0; exact Two.alloc _ _ _ (by simp)
  have f0 : Fr w w0 (· = w.heap.size + 2) w0 := Fr.start hb0
  have z0 : w0.heap.size = w.heap.size + 3 := by subst hw0; simp
  clear hw0
  obtain ⟨u1, u2⟩ := t1 w0 f0
  obtain ⟨u3, u4⟩ := t2 w0 f0
  have hq1 := hrx.below hb0
  have hq2 := hry.below hb0
  go_quiet (first
    | (go_at_call 144; exact trim_quiet hq1)
    | (go_at_call 144; exact trim_quiet hq2))
  have f1 := f0.call (bl_drewN w0 nq)
  have hXI : IsW w (.slice Ax (trim x.ws).length cx) (trim x.ws) := hrx.trimW rx
  have hYI : IsW w (.slice Ay (trim y.ws).length cy) (trim y.ws) := hry.trimW ry
  have z1 := f1.size
  have hv1 := val_trim rx
  have hv2 := val_trim ry
  generalize w0.drewN nq = wq at *
  obtain ⟨u1, u2⟩ := t1 wq f1
  obtain ⟨u3, u4⟩ := t2 wq f1
  clear hq1 hq2 f0
  by_cases hne : x.neg = y.neg
  rotate_left
  · have hcd : (x.neg == y.neg) = false := by simpa using hne
    obtain ⟨cc, hcc⟩ : ∃ cc, cc = cmpW (trim x.ws) (trim y.ws) := ⟨_, rfl⟩
    have hcs := cmpW_nonneg hXI.1 hYI.1 (trim_trim rx) (trim_trim ry)
    rw [← hcc, hv1, hv2] at hcs
    have hw := whole_cmp_calls _ _ _ _ _ (hXI.below f1.b) (hYI.below f1.b)
    rw [← hcc] at hw
    by_cases hc0 : 0 ≤ cc
    · have HCC := Lib.hid (hcs.1 hc0)
      clear hcs hcc hne
      go_wp2_with (go_at_call 148; refine hw.mono ?_; rintro e w1 ⟨rfl, hbc⟩; have f4 := f1.call hbc; have z4 := f4.size; obtain ⟨u1, u2⟩ := t1 _ f4; obtain ⟨u3, u4⟩ := t2 _ f4)
      go_region_held3 (fun W => Fr w w0 (· = w.heap.size + 2) W) (first | assumption | exact Fr.drew (by assumption) | exact Fr.call (by assumption) (by assumption) | exact Fr.put2 f2 (by rfl) (by omega) _ _) (first
        | (go_at_call 149; (with_reducible refine (whole_sub_calls _ _ _ _ _ (hXI.below (Fr.b (by assumption))) (hYI.below (Fr.b (by assumption))) HL1.out).mono ?_); rintro e w2 ⟨os, vo, HM, rfl, ho, hb1⟩; obtain ⟨hr, A, c, rfl, hN⟩ := ho)
        | (go_at_call 141; (with_reducible refine (made_at _ _ _ _ _ hN.toRow).mono ?_); rintro e w2 ⟨rfl, hb2⟩; have f2 := Fr.call (by assumption) hb2; obtain ⟨⟨x0, y0⟩, ⟨x1, y1⟩, g0, g1⟩ := (Fr.two f2 k0).cells))
      go_wp2
      have hZ := made_NZ x.neg hr (hN.below hb2) (i := x.val + y.val) (by rw [HM.out, subW_val hXI.1 hYI.1 (by rw [hv1, hv2]; exact HCC.out), hv1, hv2]; exact zadd_ge hcd HCC.out)
      refine bodyPost_ret (v := .agg #[.bool _, .slice _ _ _]) (by simp [results, Try.results125, go_sem, y0, y1]) rfl (postZ_put2 hZ rfl f2.b (by omega) (by simp; omega))
    · have HCC : Hid (val x.ws ≤ val y.ws) := by have h := mt hcs.2 hc0; exact Lib.hid (Nat.le_of_lt (Nat.lt_of_not_le h))
      clear hcs hcc hne
      go_wp2_with (go_at_call 148; refine hw.mono ?_; rintro e w1 ⟨rfl, hbc⟩; have f4 := f1.call hbc; have z4 := f4.size; obtain ⟨u1, u2⟩ := t1 _ f4; obtain ⟨u3, u4⟩ := t2 _ f4)
      go_region_held3 (fun W => Fr w w0 (· = w.heap.size + 2) W) (first | assumption | exact Fr.drew (by assumption) | exact Fr.call (by assumption) (by assumption) | exact Fr.put2 f2 (by rfl) (by omega) _ _) (first
        | (go_at_call 149; (with_reducible refine (whole_sub_calls _ _ _ _ _ (hYI.below (Fr.b (by assumption))) (hXI.below (Fr.b (by assumption))) HL2.out).mono ?_); rintro e w2 ⟨os, vo, HM, rfl, ho, hb1⟩; obtain ⟨hr, A, c, rfl, hN⟩ := ho)
        | (go_at_call 141; (with_reducible refine (made_at _ _ _ _ _ hN.toRow).mono ?_); rintro e w2 ⟨rfl, hb2⟩; have f2 := Fr.call (by assumption) hb2; obtain ⟨⟨x0, y0⟩, ⟨x1, y1⟩, g0, g1⟩ := (Fr.two f2 k0).cells))
      go_wp2
      have hZ := made_NZ y.neg hr (hN.below hb2) (i := x.val + y.val) (by rw [HM.out, subW_val hYI.1 hXI.1 (by rw [hv1, hv2]; exact HCC.out), hv1, hv2]; exact zadd_lt hcd HCC.out)
      refine bodyPost_ret (v := .agg #[.bool _, .slice _ _ _]) (by simp [results, Try.results125, go_sem, y0, y1]) rfl (postZ_put2 hZ rfl f2.b (by omega) (by simp; omega))
  · have hcd : (x.neg == y.neg) = true := by simpa using hne
    have HNE := Lib.hid hne
    clear hne
    go_wp2
    go_region_held3 (fun W => Fr w w0 (· = w.heap.size + 2) W) (first | assumption | exact Fr.drew (by assumption) | exact Fr.call (by assumption) (by assumption) | exact Fr.put2 f2 (by rfl) (by omega) _ _) (first
      | (go_at_call 147; (with_reducible refine (whole_add_calls _ _ _ _ _ (hXI.below (Fr.b (by assumption))) (hYI.below (Fr.b (by assumption))) HL3.out).mono ?_); rintro e w2 ⟨os, vo, HM, rfl, ho, hb1⟩; obtain ⟨hr, A, c, rfl, hN⟩ := ho)
      | (go_at_call 141; (with_reducible refine (made_at _ _ _ _ _ hN.toRow).mono ?_); rintro e w2 ⟨rfl, hb2⟩; have f2 := Fr.call (by assumption) hb2; obtain ⟨⟨x0, y0⟩, ⟨x1, y1⟩, g0, g1⟩ := (Fr.two f2 k0).cells))
    go_wp2
    have hZ := made_NZ x.neg hr (hN.below hb2) (i := x.val + y.val) (by rw [HM.out, addW_val hXI.1 hYI.1, hv1, hv2]; exact zadd_same HNE.out)
    refine bodyPost_ret (v := .agg #[.bool _, .slice _ _ _]) (by simp [results, Try.results125, go_sem, y0, y1]) rfl (postZ_put2 hZ rfl f2.b (by omega) (by simp; omega))
set_option maxHeartbeats 1000000 in
theorem whole_Sub_calls (va vb : Value) (x y : Zr) (w : World) (ha : IsZ w va x) (hb : IsZ w vb y) (hlen : x.ws.length + y.ws.length + 2 ≤ 35184372088832) :
    Calls Try.prog 127 #[va, vb] w (PostZ w (x.val - y.val)) := by
  obtain ⟨v1, rfl, hz⟩ := ha
  obtain ⟨v2, rfl, hy⟩ := hb
  have HL := Lib.hid hlen
  clear hlen
  have hN2 : IsZ w (.agg #[.bool (!y.neg), v2]) ⟨!y.neg, y.ws⟩ := ⟨v2, rfl, hy⟩
  have hN1 : IsZ w (.agg #[.bool x.neg, v1]) x := ⟨v1, rfl, hz⟩
  have hval : x.val + (⟨!y.neg, y.ws⟩ : Zr).val = x.val - y.val := by
    unfold Zr.val
    cases y.neg <;> simp <;> omega
  have HV := Lib.hid hval
  clear hval
  obtain ⟨ry, Ay, cy, rfl, hry⟩ := hy
  go_enter Try.func127, Try.ntmps127
  go_wp2_with (go_at_call 125; generalize hw0 : World.alloc _ _ = w0; have hb0 : Below w.heap.size w w0 := by subst hw0; exact bl_alloc2 (bl_alloc2 (bl_alloc _ _) _) _
               have k0 : Two (w.heap.size + 2) w0 := by subst hw0; exact Two.alloc _ _ _ (by simp)
               have z0 : w0.heap.size = w.heap.size + 3 := by subst hw0; simp
               clear hw0
               refine (whole_Add_calls _ _ _ _ _ (hN1.below hb0) (hN2.below hb0) HL.out).mono ?_; rw [HV.out]; rintro e w1 ⟨z, v, HZ, rfl, hZ, hb⟩
               obtain ⟨v3, rfl, hr, A, c, rfl, hN⟩ := hZ; obtain ⟨⟨x0, y0⟩, ⟨x1, y1⟩, g0, g1⟩ := (k0.below hb).cells)
  refine bodyPost_ret (v := .agg #[.bool _, .slice _ _ _]) (by simp [results, Try.results127, go_sem, y0, y1]) rfl (postZ_put2 ⟨_, rfl, hr, A, c, rfl, hN⟩ HZ.out (bl_trans hb0 hb) (by omega) (by omega))
set_option maxHeartbeats 1000000 in
theorem whole_Cmp_calls (va vb : Value) (x y : Zr) (w : World) (ha : IsZ w va x) (hb : IsZ w vb y) (hlen : x.ws.length + y.ws.length + 2 ≤ 35184372088832) :
    Calls Try.prog 117 #[va, vb] w fun e w' => e = .returned (.int .i64 (x.val - y.val).sign) ∧ Below w.heap.size w w' := by
  obtain ⟨v1, rfl, hz⟩ := ha
  obtain ⟨v2, rfl, hy⟩ := hb
  have hN2 : IsZ w (.agg #[.bool y.neg, v2]) y := ⟨v2, rfl, hy⟩
  have hN1 : IsZ w (.agg #[.bool x.neg, v1]) x := ⟨v1, rfl, hz⟩
  have HL := Lib.hid hlen
  clear hlen
  go_enter Try.func117, Try.ntmps117
  go_wp2_with (first
    | (go_at_call 127; refine (whole_Sub_calls _ _ x y _ (hN1.below (bl_alloc2 (bl_alloc _ _) _)) (hN2.below (bl_alloc2 (bl_alloc _ _) _)) HL.out).mono ?_; rintro e w1 ⟨z, v, HZ, rfl, hZ, hb⟩)
    | (go_at_call 122; refine (Sign_calls _ z _ hZ.is).mono ?_; rintro e w2 ⟨rfl, hb2⟩))
  go_ret
  exact ⟨ret_int (by rw [HZ.out, canZ_val]), bl_trans (bl_trans (bl_alloc2 (bl_alloc _ _) _) hb) hb2⟩
end Go.Proofs.Ytnmmgegnioihmaa
