/- Package frac: the exported functions. -/
import Derived.Test.YtnmmgegnioihmaaFrac4
set_option linter.unusedVariables false
set_option linter.unusedSimpArgs false
namespace Go.Proofs.Ytnmmgegnioihmaa
open Go.RowKit

theorem IsQ.slices {w : World} {v : Value} {q : Qr} (h : IsQ w v q) : ∃ A c B d, v = .agg #[.bool q.n.neg, .slice A q.n.ws.length c, .bool q.d.neg, .slice B q.d.ws.length d] := by
  obtain ⟨v1, v2, rfl, ⟨_, A, c, rfl, _⟩, ⟨_, B, d, rfl, _⟩⟩ := h
  exact ⟨A, c, B, d, rfl⟩
def zeroQ : Qr := ⟨⟨false, []⟩, ⟨false, []⟩⟩
theorem isZero (w : World) : IsQ w (.agg #[.bool false, .slice none 0 0, .bool false, .slice none 0 0]) zeroQ := ⟨_, _, rfl, ⟨Rng.nil, none, 0, rfl, Row.nil _ _⟩, ⟨Rng.nil, none, 0, rfl, Row.nil _ _⟩⟩
theorem zeroQ_val : zeroQ.val = 0 := by
  unfold Qr.val Qr.dv zeroQ Zr.val val
  simp
theorem zeroQ_S : zeroQ.S = 1 := rfl
set_option maxHeartbeats 1000000 in
theorem frac_Add_calls (va vb : Value) (a b : Qr) (w : World) (ha : IsQ w va a) (hb : IsQ w vb b) (hlen : 8 * (a.S + b.S) + 8 ≤ 35184372088832) :
    Calls Try.prog 37 #[va, vb] w (PostQ w (a.val + b.val) (a.S + b.S)) := by
  have hA := ha
  have hB := hb
  obtain ⟨A1, c1, A2, c2, rfl⟩ := ha.slices
  obtain ⟨A3, c3, A4, c4, rfl⟩ := hb.slices
  have HL := Lib.hid hlen
  clear hlen ha hb
  go_enter Try.func37, Try.ntmps37
  go_wp2_with (go_at_call 94; generalize hw0 : World.alloc _ _ = w0
               have hb0 : Below w.heap.size w w0 := by subst hw0; exact bl_alloc2 (bl_alloc2 (bl_alloc _ _) _) _
               have k0 : Four (w.heap.size + 2) w0 := by subst hw0; exact Four.alloc _ _ _ _ _ (by simp)
               have z0 : w0.heap.size = w.heap.size + 3 := by subst hw0; simp
               clear hw0
               refine (does_add_w _ _ a b _ (hA.below hb0) (hB.below hb0) HL.out).mono ?_; rintro e w1 ⟨q, v, HQ, hS, rfl, hN, hb1⟩
               obtain ⟨v5, v6, rfl, ⟨r5, A5, c5, rfl, h5⟩, ⟨r6, A6, c6, rfl, h6⟩⟩ := hN
               obtain ⟨⟨x0, y0⟩, ⟨x1, y1⟩, ⟨x2, y2⟩, ⟨x3, y3⟩, g0, g1, g2, g3⟩ := (k0.below hb1).cells)
  exact bodyPost_ret (v := .agg #[.bool _, .slice _ _ _, .bool _, .slice _ _ _]) (by simp [results, Try.results37, go_sem, y0, y1, y2, y3]) rfl (postQ_put4 (n1 := w0.heap.size) ⟨_, _, rfl, ⟨r5, A5, c5, rfl, h5⟩, ⟨r6, A6, c6, rfl, h6⟩⟩ HQ.out hS (bl_trans hb0 hb1) (by omega) (by omega))
set_option maxHeartbeats 1000000 in
theorem frac_Sub_calls (va vb : Value) (a b : Qr) (w : World) (ha : IsQ w va a) (hb : IsQ w vb b) (hlen : 8 * (a.S + b.S) + 8 ≤ 35184372088832) :
    Calls Try.prog 38 #[va, vb] w (PostQ w (a.val - b.val) (a.S + b.S)) := by
  have hA := ha
  have hB := hb
  obtain ⟨A1, c1, A2, c2, rfl⟩ := ha.slices
  obtain ⟨A3, c3, A4, c4, rfl⟩ := hb.slices
  have HL := Lib.hid hlen
  clear hlen ha hb
  go_enter Try.func38, Try.ntmps38
  go_wp2_with (go_at_call 94; generalize hw0 : World.alloc _ _ = w0
               have hb0 : Below w.heap.size w w0 := by subst hw0; exact bl_alloc2 (bl_alloc2 (bl_alloc _ _) _) _
               have k0 : Four (w.heap.size + 2) w0 := by subst hw0; exact Four.alloc _ _ _ _ _ (by simp)
               have z0 : w0.heap.size = w.heap.size + 3 := by subst hw0; simp
               clear hw0
               refine (does_sub_w _ _ a b _ (hA.below hb0) (hB.below hb0) HL.out).mono ?_; rintro e w1 ⟨q, v, HQ, hS, rfl, hN, hb1⟩
               obtain ⟨v5, v6, rfl, ⟨r5, A5, c5, rfl, h5⟩, ⟨r6, A6, c6, rfl, h6⟩⟩ := hN
               obtain ⟨⟨x0, y0⟩, ⟨x1, y1⟩, ⟨x2, y2⟩, ⟨x3, y3⟩, g0, g1, g2, g3⟩ := (k0.below hb1).cells)
  exact bodyPost_ret (v := .agg #[.bool _, .slice _ _ _, .bool _, .slice _ _ _]) (by simp [results, Try.results38, go_sem, y0, y1, y2, y3]) rfl (postQ_put4 (n1 := w0.heap.size) ⟨_, _, rfl, ⟨r5, A5, c5, rfl, h5⟩, ⟨r6, A6, c6, rfl, h6⟩⟩ HQ.out hS (bl_trans hb0 hb1) (by omega) (by omega))
set_option maxHeartbeats 1000000 in
theorem frac_Mul_calls (va vb : Value) (a b : Qr) (w : World) (ha : IsQ w va a) (hb : IsQ w vb b) (hlen : 8 * (a.S + b.S) + 8 ≤ 35184372088832) :
    Calls Try.prog 34 #[va, vb] w (PostQ w (a.val * b.val) (a.S + b.S)) := by
  have hA := ha
  have hB := hb
  obtain ⟨A1, c1, A2, c2, rfl⟩ := ha.slices
  obtain ⟨A3, c3, A4, c4, rfl⟩ := hb.slices
  have HL := Lib.hid hlen
  clear hlen ha hb
  go_enter Try.func34, Try.ntmps34
  go_wp2_with (go_at_call 94; generalize hw0 : World.alloc _ _ = w0
               have hb0 : Below w.heap.size w w0 := by subst hw0; exact bl_alloc2 (bl_alloc2 (bl_alloc _ _) _) _
               have k0 : Four (w.heap.size + 2) w0 := by subst hw0; exact Four.alloc _ _ _ _ _ (by simp)
               have z0 : w0.heap.size = w.heap.size + 3 := by subst hw0; simp
               clear hw0
               refine (does_mul_w _ _ a b _ (hA.below hb0) (hB.below hb0) HL.out).mono ?_; rintro e w1 ⟨q, v, HQ, hS, rfl, hN, hb1⟩
               obtain ⟨v5, v6, rfl, ⟨r5, A5, c5, rfl, h5⟩, ⟨r6, A6, c6, rfl, h6⟩⟩ := hN
               obtain ⟨⟨x0, y0⟩, ⟨x1, y1⟩, ⟨x2, y2⟩, ⟨x3, y3⟩, g0, g1, g2, g3⟩ := (k0.below hb1).cells)
  exact bodyPost_ret (v := .agg #[.bool _, .slice _ _ _, .bool _, .slice _ _ _]) (by simp [results, Try.results34, go_sem, y0, y1, y2, y3]) rfl (postQ_put4 (n1 := w0.heap.size) ⟨_, _, rfl, ⟨r5, A5, c5, rfl, h5⟩, ⟨r6, A6, c6, rfl, h6⟩⟩ HQ.out hS (bl_trans hb0 hb1) (by omega) (by omega))
set_option maxHeartbeats 1000000 in
theorem frac_Neg_calls (va : Value) (a : Qr) (w : World) (ha : IsQ w va a) (hlen : 8 * (1 + a.S) + 8 ≤ 35184372088832) :
    Calls Try.prog 41 #[va] w (PostQ w (-a.val) (1 + a.S)) := by
  have hA := ha
  obtain ⟨A1, c1, A2, c2, rfl⟩ := ha.slices
  have HL := Lib.hid hlen
  clear hlen ha
  go_enter Try.func41, Try.ntmps41
  go_wp2_with (go_at_call 38; generalize hw0 : World.alloc _ _ = w0
               have hb0 : Below w.heap.size w w0 := by subst hw0; exact bl_alloc2 (bl_alloc _ _) _
               have k0 : Four (w.heap.size + 1) w0 := by subst hw0; exact Four.alloc _ _ _ _ _ (by simp)
               have z0 : w0.heap.size = w.heap.size + 2 := by subst hw0; simp
               clear hw0
               refine (frac_Sub_calls _ _ zeroQ a _ (isZero w0) (hA.below hb0) HL.out).mono ?_; rintro e w1 ⟨q, v, HQ, hS, rfl, hN, hb1⟩
               obtain ⟨v5, v6, rfl, ⟨r5, A5, c5, rfl, h5⟩, ⟨r6, A6, c6, rfl, h6⟩⟩ := hN
               obtain ⟨⟨x0, y0⟩, ⟨x1, y1⟩, ⟨x2, y2⟩, ⟨x3, y3⟩, g0, g1, g2, g3⟩ := (k0.below hb1).cells)
  exact bodyPost_ret (v := .agg #[.bool _, .slice _ _ _, .bool _, .slice _ _ _]) (by simp [results, Try.results41, go_sem, y0, y1, y2, y3]) rfl (postQ_put4 (n1 := w0.heap.size) ⟨_, _, rfl, ⟨r5, A5, c5, rfl, h5⟩, ⟨r6, A6, c6, rfl, h6⟩⟩ (by rw [HQ.out, zeroQ_val, Rat.sub_eq_add_neg, Rat.zero_add]) hS (bl_trans hb0 hb1) (by omega) (by omega))
theorem canQ_int (i : Int) : canQ (i : Rat) = ⟨canZ i, ⟨false, []⟩⟩ := by
  unfold canQ
  simp
set_option maxHeartbeats 1000000 in
theorem frac_FromInt64_calls (i : Int) (w : World) (h1 : -9223372036854775808 ≤ i) (h2 : i ≤ 9223372036854775807) :
    Calls Try.prog 73 #[.int .i64 i] w (PostQ w (i : Rat) 3) := by
  have hS : (canQ (i : Rat)).S ≤ 3 := by
    rw [canQ_int]
    have : (canZ i).ws.length ≤ 2 := canZ_len (by omega)
    unfold Qr.S
    simp only [List.length_nil]
    omega
  have HS := Lib.hid hS
  clear hS
  go_enter Try.func73, Try.ntmps73
  go_wp2_with (go_at_call 115; generalize hw0 : World.alloc _ _ = w0
               have hb0 : Below w.heap.size w w0 := by subst hw0; exact bl_alloc _ _
               have k0 : Four w.heap.size w0 := by subst hw0; exact Four.alloc _ _ _ _ _ (by simp)
               have z0 : w0.heap.size = w.heap.size + 1 := by subst hw0; simp
               clear hw0
               refine (FromInt64_calls i w0 h1 h2).mono ?_; rintro e w1 ⟨z, v, HZ, rfl, hN, hb1⟩
               obtain ⟨v5, rfl, ⟨r5, A5, c5, rfl, h5⟩⟩ := hN
               obtain ⟨⟨x0, y0⟩, ⟨x1, y1⟩, ⟨x2, y2⟩, ⟨x3, y3⟩, g0, g1, g2, g3⟩ := (k0.below hb1).cells)
  exact bodyPost_ret (v := .agg #[.bool _, .slice _ _ _, .bool _, .slice _ _ _]) (by simp [results, Try.results73, go_sem, y0, y1, y2, y3]) rfl (postQ_put4 (n1 := w0.heap.size) (q := ⟨z, ⟨false, []⟩⟩) ⟨_, _, rfl, ⟨r5, A5, c5, rfl, h5⟩, ⟨Rng.nil, none, 0, rfl, NRow.nil _ _ _⟩⟩ (by rw [HZ.out, canQ_int]) (by have := HS.out; rw [canQ_int, ← HZ.out] at this; exact this) (bl_trans hb0 hb1) (by omega) (by omega))
set_option maxHeartbeats 1000000 in
theorem frac_Canonical_calls (va : Value) (a : Qr) (w : World) (ha : IsQ w va a) (hlen : 8 * (1 + a.S) + 8 ≤ 35184372088832) :
    Calls Try.prog 101 #[va] w (PostQ w a.val (a.S + 1)) := by
  have hA := ha
  have ka : a.Ok := by obtain ⟨_, _, _, h1, h2⟩ := ha; exact ⟨h1.1, h2.1⟩
  obtain ⟨A1, c1, A2, c2, rfl⟩ := ha.slices
  have HLa : Hid (a.S ≤ 35184372088832) := Lib.hid (by omega)
  have HL := Lib.hid hlen
  clear hlen ha
  go_enter Try.func101, Try.ntmps101
  go_wp2_with (first
    | (go_at_call 116; generalize hw0 : World.alloc _ _ = w0
       have hb0 : Below w.heap.size w w0 := by subst hw0; exact bl_alloc2 (bl_alloc _ _) _
       have k0 : Four (w.heap.size + 1) w0 := by subst hw0; exact Four.alloc _ _ _ _ _ (by simp)
       have z0 : w0.heap.size = w.heap.size + 2 := by subst hw0; simp
       clear hw0
       refine (of_calls _ a w0 (hA.below hb0) HLa.out).mono ?_; rintro e w1 ⟨p, x1, HP, rfl, hP, hb1⟩
       have HK := Lib.hid (can_ok HP.out ka)
       have hz0 := HP.out.pos
       have hz1 := HP.out.val
       have hz2 : 2 * (p.n.ws.length + p.d.ws.length) + 4 ≤ 35184372088832 := by have := HP.out.ln; have := HP.out.ld; have := HL.out; omega)
    | (go_at_call 130; refine (least_calls _ p a.val (a.S + 1) w1 hP hz0 hz1 HK.out hz2).mono ?_; rintro e w2 ⟨q, v, HQ, hS, rfl, hN, hb2⟩
       obtain ⟨v5, v6, rfl, ⟨r5, A5, c5, rfl, h5⟩, ⟨r6, A6, c6, rfl, h6⟩⟩ := hN
       have hs1 := hb1.size
       obtain ⟨⟨x0, y0⟩, ⟨x1, y1⟩, ⟨x2, y2⟩, ⟨x3, y3⟩, g0, g1, g2, g3⟩ := ((k0.below hb1).below hb2).cells))
  exact bodyPost_ret (v := .agg #[.bool _, .slice _ _ _, .bool _, .slice _ _ _]) (by simp [results, Try.results101, go_sem, y0, y1, y2, y3]) rfl (postQ_put4 (n1 := w1.heap.size) ⟨_, _, rfl, ⟨r5, A5, c5, rfl, h5⟩, ⟨r6, A6, c6, rfl, h6⟩⟩ HQ.out hS (bl_trans hb0 (bl_trans hb1 hb2)) (by omega) (by omega))
theorem sign_divInt {n d : Int} (hd : 0 < d) : (Rat.divInt n d).num.sign = n.sign := by
  rw [least_num hd]
  have hg : (0 : Int) < (Int.gcd n d : Nat) := by have := gcd_ne (a := n) hd; omega
  have hdv : ((Int.gcd n d : Nat) : Int) ∣ n := Int.gcd_dvd_left ..
  generalize ((Int.gcd n d : Nat) : Int) = g at *
  obtain ⟨c, rfl⟩ := hdv
  rw [Int.mul_ediv_cancel_left _ (by omega), Int.sign_mul, Int.sign_eq_one_of_pos hg, Int.one_mul]
set_option maxHeartbeats 1000000 in
theorem frac_Sign_calls (va : Value) (a : Qr) (w : World) (ha : IsQ w va a) (hlen : 8 * (1 + a.S) + 8 ≤ 35184372088832) :
    Calls Try.prog 87 #[va] w fun e w' => e = .returned (.int .i64 a.val.num.sign) ∧ Below w.heap.size w w' := by
  have hA := ha
  obtain ⟨A1, c1, A2, c2, rfl⟩ := ha.slices
  have HLa : Hid (a.S ≤ 35184372088832) := Lib.hid (by omega)
  clear hlen ha
  have hfd : ∀ (W : World) (b1 b2 : Bool) (A B : Option Addr) (n c m d : Nat), (Instr.field 117 (.agg #[.bool b1, .slice A n c, .bool b2, .slice B m d]) 0).run Try.prog W = .ok (.agg #[.bool b1, .slice A n c]) W := by intros; kernel_rfl
  go_enter Try.func87, Try.ntmps87
  go_wp2_with (first
    | (go_at_call 116; refine (of_calls _ a _ (hA.below (bl_alloc _ _)) HLa.out).mono ?_; rintro e w1 ⟨p, x1, HP, rfl, hP, hb1⟩
       obtain ⟨v1, v2, rfl, hn, hd⟩ := hP
       have hpn : IsZ w1 (.agg #[.bool p.n.neg, v1]) p.n := ⟨v1, rfl, hn⟩
       obtain ⟨r5, A5, c5, rfl, h5⟩ := hn; obtain ⟨r6, A6, c6, rfl, h6⟩ := hd)
    | (go_at_call 122; refine (Sign_calls _ p.n _ hpn).mono ?_; rintro e w2 ⟨rfl, hb2⟩))
  go_ret
  exact ⟨ret_int (by rw [← HP.out.val, sign_divInt HP.out.pos]), bl_trans (bl_trans (bl_alloc _ _) hb1) hb2⟩
theorem cmp_sign {a b p q : Qr} (hp : Parts a p) (hq : Parts b q) (ka : a.Ok) (kb : b.Ok) : (p.n.val * q.d.val - q.n.val * p.d.val).sign = (a.val - b.val).num.sign := by
  have h := sub_ok hp hq ka kb
  rw [← h.val, sign_divInt h.pos]
theorem sign_eq_zero {x y : Rat} : (x - y).num.sign = 0 ↔ x = y := by
  rw [Int.sign_eq_zero_iff_zero, Rat.num_eq_zero]
  constructor
  · intro h; have : x - y + y = 0 + y := by rw [h]
    rwa [Rat.sub_add_cancel, Rat.zero_add] at this
  · rintro rfl; exact Rat.sub_self
end Go.Proofs.Ytnmmgegnioihmaa
