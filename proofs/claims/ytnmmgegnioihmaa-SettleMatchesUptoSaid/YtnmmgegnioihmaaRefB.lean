/- The reference's layer 1: Least, Neg, Abs, Sign, Same, From. -/
import Derived.Test.YtnmmgegnioihmaaRefA
import Derived.Test.YtnmmgegnioihmaaWholeB
import Derived.Test.YtnmmgegnioihmaaFracA
set_option linter.unusedVariables false
set_option linter.unusedSimpArgs false
namespace Go.Proofs.Ytnmmgegnioihmaa
open Go.RowKit

theorem dig_val_len {xs : List Nat} (h : Rng xs) : (dig (val xs)).length ≤ 2 * xs.length := by
  rw [← trim_halves h, ← halvesL_len]; exact trim_len _
theorem sgn_val (z : Zr) : sgn z.neg (val z.ws) = z.val := rfl
theorem sgn_neg (z : Zr) : sgn (!z.neg) (val z.ws) = -z.val := by unfold sgn Zr.val; cases z.neg <;> simp
theorem sgn_abs (z : Zr) : sgn false (val z.ws) = (z.val.natAbs : Int) := by rw [Zr.natAbs]; rfl
set_option maxHeartbeats 1000000 in
theorem hLeast_calls (va : Value) (x : Zr) (w : World) (ha : IsZ w va x) (hlen : x.ws.length ≤ 1099511627776) : Calls Try.prog 136 #[va] w (PostZ w (x.val)) := by
  obtain ⟨v1, rfl, hz⟩ := ha
  have HL : Hid (x.ws.length ≤ 4398046511104) := Lib.hid (by omega)
  have HD : Hid ((dig (val x.ws)).length ≤ 4398046511104) := Lib.hid (by have := dig_val_len hz.1; omega)
  have HS : Hid (sgn x.neg (hval (dig (val x.ws))) = x.val) := Lib.hid (by rw [hval_dig]; exact sgn_val x)
  clear hlen
  go_enter Try.func136, Try.ntmps136
  go_wp2
  generalize hw0 : World.alloc _ _ = w0
  have hb0 : Below w.heap.size w w0 := by subst hw0; exact bl_alloc2 (bl_alloc _ _) _
  have t1 : Box2 w w0 (· = w.heap.size + 1) w.heap.size (.bool x.neg) v1 := Box2.mk (by omega) (by subst hw0; refine ⟨?_, ?_⟩ <;> go_simp)
  have k0 : Two (w.heap.size + 1) w0 := by subst hw0; exact Two.alloc _ _ _ (by simp)
  have f0 : Fr w w0 (· = w.heap.size + 1) w0 := Fr.start hb0
  have z0 : w0.heap.size = w.heap.size + 2 := by subst hw0; simp
  clear hw0
  go_region_held3 (fun W => Fr w w0 (· = w.heap.size + 1) W) (first | assumption | exact f0.drew | exact Fr.call (by assumption) (by assumption) | exact Fr.put2 f2 (by rfl) (by omega) _ _) (first
    | (go_at_call 162; (with_reducible refine (hhalves_calls _ _ _ (hz.below (Fr.b (by assumption))) HL.out).mono ?_); rintro e w1 ⟨vh, rfl, hh, hb1⟩)
    | (go_at_call 161; (with_reducible refine (hof_calls _ _ _ _ hh.is HD.out).mono ?_); rintro e w2 ⟨z, v, HZ, rfl, hN, hb2⟩; rw [HS.out] at HZ; obtain ⟨v3, rfl, hr, A, c, rfl, hN⟩ := hN; have f2 := Fr.call (by assumption) hb2; obtain ⟨⟨x0, y0⟩, ⟨x1, y1⟩, g0, g1⟩ := (Fr.two f2 k0).cells))
  go_wp2
  have s1 := hb1.size
  refine bodyPost_ret (v := .agg #[.bool _, .slice _ _ _]) (by simp [results, Try.results136, go_sem, y0, y1]) rfl (postZ_put2 (n1 := w1.heap.size) ⟨_, rfl, hr, A, c, rfl, hN⟩ HZ.out f2.b (by omega) (by simp at s1; omega))
set_option maxHeartbeats 1000000 in
theorem hNeg_calls (va : Value) (x : Zr) (w : World) (ha : IsZ w va x) (hlen : x.ws.length ≤ 1099511627776) : Calls Try.prog 141 #[va] w (PostZ w (-x.val)) := by
  obtain ⟨v1, rfl, hz⟩ := ha
  have HL : Hid (x.ws.length ≤ 4398046511104) := Lib.hid (by omega)
  have HD : Hid ((dig (val x.ws)).length ≤ 4398046511104) := Lib.hid (by have := dig_val_len hz.1; omega)
  have HS : Hid (sgn (!x.neg) (hval (dig (val x.ws))) = -x.val) := Lib.hid (by rw [hval_dig]; exact sgn_neg x)
  clear hlen
  go_enter Try.func141, Try.ntmps141
  go_wp2
  generalize hw0 : World.alloc _ _ = w0
  have hb0 : Below w.heap.size w w0 := by subst hw0; exact bl_alloc2 (bl_alloc _ _) _
  have t1 : Box2 w w0 (· = w.heap.size + 1) w.heap.size (.bool x.neg) v1 := Box2.mk (by omega) (by subst hw0; refine ⟨?_, ?_⟩ <;> go_simp)
  have k0 : Two (w.heap.size + 1) w0 := by subst hw0; exact Two.alloc _ _ _ (by simp)
  have f0 : Fr w w0 (· = w.heap.size + 1) w0 := Fr.start hb0
  have z0 : w0.heap.size = w.heap.size + 2 := by subst hw0; simp
  clear hw0
  go_region_held3 (fun W => Fr w w0 (· = w.heap.size + 1) W) (first | assumption | exact f0.drew | exact Fr.call (by assumption) (by assumption) | exact Fr.put2 f2 (by rfl) (by omega) _ _) (first
    | (go_at_call 162; (with_reducible refine (hhalves_calls _ _ _ (hz.below (Fr.b (by assumption))) HL.out).mono ?_); rintro e w1 ⟨vh, rfl, hh, hb1⟩)
    | (go_at_call 161; (with_reducible refine (hof_calls _ _ _ _ hh.is HD.out).mono ?_); rintro e w2 ⟨z, v, HZ, rfl, hN, hb2⟩; rw [HS.out] at HZ; obtain ⟨v3, rfl, hr, A, c, rfl, hN⟩ := hN; have f2 := Fr.call (by assumption) hb2; obtain ⟨⟨x0, y0⟩, ⟨x1, y1⟩, g0, g1⟩ := (Fr.two f2 k0).cells))
  go_wp2
  have s1 := hb1.size
  refine bodyPost_ret (v := .agg #[.bool _, .slice _ _ _]) (by simp [results, Try.results141, go_sem, y0, y1]) rfl (postZ_put2 (n1 := w1.heap.size) ⟨_, rfl, hr, A, c, rfl, hN⟩ HZ.out f2.b (by omega) (by simp at s1; omega))
set_option maxHeartbeats 1000000 in
theorem hAbs_calls (va : Value) (x : Zr) (w : World) (ha : IsZ w va x) (hlen : x.ws.length ≤ 1099511627776) : Calls Try.prog 158 #[va] w (PostZ w ((x.val.natAbs : Nat) : Int)) := by
  obtain ⟨v1, rfl, hz⟩ := ha
  have HL : Hid (x.ws.length ≤ 4398046511104) := Lib.hid (by omega)
  have HD : Hid ((dig (val x.ws)).length ≤ 4398046511104) := Lib.hid (by have := dig_val_len hz.1; omega)
  have HS : Hid (sgn false (hval (dig (val x.ws))) = ((x.val.natAbs : Nat) : Int)) := Lib.hid (by rw [hval_dig]; exact sgn_abs x)
  clear hlen
  go_enter Try.func158, Try.ntmps158
  go_wp2_with (first
    | (go_at_call 162; generalize hw0 : World.alloc _ _ = w0; have hb0 : Below w.heap.size w w0 := by subst hw0; exact bl_alloc2 (bl_alloc _ _) _
       have k0 : Two (w.heap.size + 1) w0 := by subst hw0; exact Two.alloc _ _ _ (by simp)
       have z0 : w0.heap.size = w.heap.size + 2 := by subst hw0; simp
       clear hw0
       (with_reducible refine (hhalves_calls _ _ _ (hz.below hb0) HL.out).mono ?_); rintro e w1 ⟨vh, rfl, hh, hb1⟩)
    | (go_at_call 161; (with_reducible refine (hof_calls _ _ _ _ hh.is HD.out).mono ?_); rintro e w2 ⟨z, v, HZ, rfl, hN, hb2⟩; rw [HS.out] at HZ; obtain ⟨v3, rfl, hr, A, c, rfl, hN⟩ := hN; obtain ⟨⟨x0, y0⟩, ⟨x1, y1⟩, g0, g1⟩ := (k0.below (bl_trans hb1 hb2)).cells))
  have s1 := hb1.size
  refine bodyPost_ret (v := .agg #[.bool _, .slice _ _ _]) (by simp [results, Try.results158, go_sem, y0, y1]) rfl (postZ_put2 (n1 := w1.heap.size) ⟨_, rfl, hr, A, c, rfl, hN⟩ HZ.out (bl_trans hb0 (bl_trans hb1 hb2)) (by omega) (by omega))
theorem hsign_zero {z : Zr} (h : (dig (val z.ws)).length = 0) : z.val.sign = 0 := by
  have h1 : val z.ws = 0 := dig_eq_nil.1 (List.length_eq_zero_iff.1 h)
  unfold Zr.val; rw [h1]; simp
theorem hsign_neg {z : Zr} (h : (dig (val z.ws)).length ≠ 0) (hn : z.neg = true) : z.val.sign = -1 := by
  have h1 : val z.ws ≠ 0 := fun e => h (by rw [e, dig_zero]; rfl)
  unfold Zr.val; rw [hn]; exact Int.sign_eq_neg_one_of_neg (by simp; omega)
theorem hsign_pos {z : Zr} (h : (dig (val z.ws)).length ≠ 0) (hn : z.neg = false) : z.val.sign = 1 := by
  have h1 : val z.ws ≠ 0 := fun e => h (by rw [e, dig_zero]; rfl)
  unfold Zr.val; rw [hn]; exact Int.sign_eq_one_of_pos (by simp; omega)
set_option maxHeartbeats 1000000 in
theorem hSign_calls (v : Value) (z : Zr) (w : World) (h : IsZ w v z) (hlen : z.ws.length ≤ 1099511627776) :
    Calls Try.prog 157 #[v] w fun e w' => e = .returned (.int .i64 z.val.sign) ∧ Below w.heap.size w w' := by
  obtain ⟨v1, rfl, hz⟩ := h
  have HL : Hid (z.ws.length ≤ 4398046511104) := Lib.hid (by omega)
  have hl9 : (dig (val z.ws)).length ≤ 9223372036854775807 := by have := dig_val_len hz.1; omega
  have hb0 : ∀ o, Below w.heap.size w (w.alloc o) := fun o => bl_alloc w o
  have c0 : ∀ o, o = Obj.cells #[.bool z.neg, v1] 41 → (w.alloc o).cell? ⟨w.heap.size, 0, none⟩ = some (.bool z.neg) := fun o ho => by subst ho; rw [cell_of_row _ _ _ _ _ _ (heap_alloc_new w _)]; rfl
  obtain ⟨n, hn⟩ : ∃ n, n = (dig (val z.ws)).length := ⟨_, rfl⟩
  by_cases h0 : n = 0
  · have HS := Lib.hid (hsign_zero (z := z) (by omega))
    have H0 := Lib.hid (show (dig (val z.ws)).length = 0 by omega)
    clear h0 hn
    go_enter Try.func157, Try.ntmps157
    go_wp2_with (go_at_call 162; (with_reducible refine (hhalves_calls _ _ _ (hz.below (hb0 _)) HL.out).mono ?_); rintro e w1 ⟨vh, rfl, hh, hb1⟩; obtain ⟨hr, A, c, rfl, hN⟩ := hh; rw [H0.out])
    go_ret
    exact ⟨ret_int HS.out.symm, bl_trans (hb0 _) hb1⟩
  · have hnn := hn
    have hb : (((dig (val z.ws)).length : Int) == 0) = false := by rw [beq_eq_false_iff_ne]; omega
    have hne : (dig (val z.ws)).length ≠ 0 := by omega
    cases hng : z.neg
    · have HS := Lib.hid (hsign_pos hne hng)
      rw [hng] at c0
      have C0 := Lib.hid c0
      clear h0 hn hnn hne c0
      go_enter Try.func157, Try.ntmps157
      go_wp2_with (go_at_call 162; (with_reducible refine (hhalves_calls _ _ _ (hz.below (hb0 _)) HL.out).mono ?_); rintro e w1 ⟨vh, rfl, hh, hb1⟩; obtain ⟨hr, A, c, rfl, hN⟩ := hh; have c1 := bl_cell hb1 (C0.out _ rfl))
      go_ret
      exact ⟨ret_int HS.out.symm, bl_trans (hb0 _) hb1⟩
    · have HS := Lib.hid (hsign_neg hne hng)
      rw [hng] at c0
      have C0 := Lib.hid c0
      clear h0 hn hnn hne c0
      go_enter Try.func157, Try.ntmps157
      go_wp2_with (go_at_call 162; (with_reducible refine (hhalves_calls _ _ _ (hz.below (hb0 _)) HL.out).mono ?_); rintro e w1 ⟨vh, rfl, hh, hb1⟩; obtain ⟨hr, A, c, rfl, hN⟩ := hh; have c1 := bl_cell hb1 (C0.out _ rfl))
      go_ret
      exact ⟨ret_int HS.out.symm, bl_trans (hb0 _) hb1⟩
set_option maxHeartbeats 1000000 in
/-- two representations that are alike -/
theorem hSame_calls (va vb : Value) (x : Zr) (w : World) (ha : IsZ w va x) (hb : IsZ w vb x) (hlen : x.ws.length ≤ 4398046511104) :
    Calls Try.prog 104 #[va, vb] w fun e w' => e = .returned (.bool true) ∧ Below w.heap.size w w' := by
  obtain ⟨v1, rfl, hr, A, ca, rfl, hra⟩ := ha
  obtain ⟨v2, rfl, _, B, cb, rfl, hrb⟩ := hb
  have hd1 : (x.neg != x.neg) = false := by simp
  have hd2 : (((x.ws.length : Nat) : Int) != (x.ws.length : Int)) = false := by simp
  go_enter Try.func104, Try.ntmps104
  go_wp2
  generalize hw0 : World.alloc _ _ = w0
  have hb0 : Below w.heap.size w w0 := by subst hw0; exact bl_alloc2 (bl_alloc _ _) _
  have t1 : w0.cell? ⟨w.heap.size, 1, none⟩ = some (.slice A x.ws.length ca) := by subst hw0; go_simp
  have t2 : w0.cell? ⟨w.heap.size + 1, 1, none⟩ = some (.slice B x.ws.length cb) := by subst hw0; go_simp
  clear hw0
  have q1 := hra.below hb0
  have q2 := hrb.below hb0
  go_loopw [5] (fun i wr => ∃ k : Nat, k ≤ x.ws.length ∧ i = .int .i64 k ∧ Below w0.heap.size w0 wr) (fun i _ => x.ws.length - (intOf i).toNat)
  case atStart => exact ⟨0, Nat.zero_le _, rfl, Below.refl _ _⟩
  case round =>
    obtain ⟨k, hk, rfl, hbl⟩ := hrel
    have u1 := bl_cell hbl t1
    have u2 := bl_cell hbl t2
    by_cases hlt : k < x.ws.length
    · obtain ⟨b1, o1, rfl, y1⟩ := row_at (q1.below hbl) hlt
      obtain ⟨b2, o2, rfl, y2⟩ := row_at (q2.below hbl) hlt
      unfold encW at y1 y2
      generalize x.ws.getD k 0 = d at *
      have hd3 : ((d : Int) != (d : Int)) = false := by simp
      clear t1 t2
      go_wp2
      go_quiet (fail)
      go_wp2
      go_roundw
      case rel => exact ⟨k + 1, by omega, by simp, hbl.trans ((bl_drewN wr nq).mono hbl.size)⟩
      case measure => simp [intOf]; omega
    · obtain rfl : k = x.ws.length := by omega
      go_wp2
      go_ret
      exact ⟨rfl, bl_trans hb0 hbl⟩
end Go.Proofs.Ytnmmgegnioihmaa
namespace Go.Proofs.Ytnmmgegnioihmaa
open Go.RowKit

set_option maxHeartbeats 400000 in
theorem hFrom_calls (i : Int) (w : World) (h1 : -9223372036854775808 ≤ i) (h2 : i ≤ 9223372036854775807) :
    Calls Try.prog 105 #[.int .i64 i] w (PostZ w i) := by
  have hm : i.natAbs ≤ 9223372036854775808 := by omega
  by_cases h0 : i < 0
  · have e1 := u64_neg h0 h1
    have hv : (if true then -(val [i.natAbs % 4294967296, i.natAbs / 4294967296] : Int) else (val [i.natAbs % 4294967296, i.natAbs / 4294967296] : Int)) = i := by rw [val_two]; simp; omega
    have hd2 : (i.natAbs : Int) / 4294967296 % 4294967296 = (i.natAbs : Int) / 4294967296 := by omega
    have HV := Lib.hid hv
    clear hv
    generalize i.natAbs = m at *
    go_enter Try.func105, Try.ntmps105
    go_wp2_with fail
    have hN := nrow_two (n0 := w.heap.size + 1) (w := (w.alloc (.cells #[.bool false, .slice none 0 0] 41)).alloc (.cells #[.int .u32 ((m : Int) % 4294967296), .int .u32 ((m : Int) / 4294967296)] 101)) (b := w.heap.size + 1) hm 101 (Nat.le_refl _) (by simpa using heap_alloc_new (w.alloc (.cells #[.bool false, .slice none 0 0] 41)) _)
    refine (hLeast_calls _ ⟨true, [m % 4294967296, m / 4294967296]⟩ _ ⟨_, rfl, rng_two hm, _, _, rfl, hN.toRow⟩ (by simp)).mono ?_
    rintro e w1 ⟨z, v, HZ, rfl, hNZ, hb1⟩
    obtain ⟨v3, rfl, hr, A, c, rfl, hN3⟩ := hNZ
    have hs1 := hb1.size
    have hb := bl_trans (bl_alloc2 (bl_alloc w _) _) hb1
    obtain ⟨⟨x0, y0⟩, ⟨x1, y1⟩, g0, g1⟩ := ((Two.alloc (W := w) (.bool false) (.slice none 0 0) 41 rfl).below (bl_trans (bl_alloc _ _) hb1)).cells
    go_wp2
    refine bodyPost_ret (v := .agg #[.bool _, .slice _ _ _]) (by simp [results, Try.results105, go_sem, y0, y1]) rfl (postZ_put2 (n1 := w.heap.size + 1) (NZ.mono (⟨_, rfl, hr, A, c, rfl, hN3⟩ : NZ _ _ _ z) (by simp)) (by rw [HZ.out]; exact congrArg canZ HV.out) hb (Nat.le_refl _) (Nat.lt_succ_self _))
  · have e1 := u64_pos h0 h2
    have hv : (if false then -(val [i.natAbs % 4294967296, i.natAbs / 4294967296] : Int) else (val [i.natAbs % 4294967296, i.natAbs / 4294967296] : Int)) = i := by rw [val_two]; simp; omega
    have hd2 : (i.natAbs : Int) / 4294967296 % 4294967296 = (i.natAbs : Int) / 4294967296 := by omega
    have HV := Lib.hid hv
    clear hv
    generalize i.natAbs = m at *
    go_enter Try.func105, Try.ntmps105
    go_wp2_with fail
    have hN := nrow_two (n0 := w.heap.size + 1) (w := (w.alloc (.cells #[.bool false, .slice none 0 0] 41)).alloc (.cells #[.int .u32 ((m : Int) % 4294967296), .int .u32 ((m : Int) / 4294967296)] 101)) (b := w.heap.size + 1) hm 101 (Nat.le_refl _) (by simpa using heap_alloc_new (w.alloc (.cells #[.bool false, .slice none 0 0] 41)) _)
    refine (hLeast_calls _ ⟨false, [m % 4294967296, m / 4294967296]⟩ _ ⟨_, rfl, rng_two hm, _, _, rfl, hN.toRow⟩ (by simp)).mono ?_
    rintro e w1 ⟨z, v, HZ, rfl, hNZ, hb1⟩
    obtain ⟨v3, rfl, hr, A, c, rfl, hN3⟩ := hNZ
    have hs1 := hb1.size
    have hb := bl_trans (bl_alloc2 (bl_alloc w _) _) hb1
    obtain ⟨⟨x0, y0⟩, ⟨x1, y1⟩, g0, g1⟩ := ((Two.alloc (W := w) (.bool false) (.slice none 0 0) 41 rfl).below (bl_trans (bl_alloc _ _) hb1)).cells
    go_wp2
    refine bodyPost_ret (v := .agg #[.bool _, .slice _ _ _]) (by simp [results, Try.results105, go_sem, y0, y1]) rfl (postZ_put2 (n1 := w.heap.size + 1) (NZ.mono (⟨_, rfl, hr, A, c, rfl, hN3⟩ : NZ _ _ _ z) (by simp)) (by rw [HZ.out]; exact congrArg canZ HV.out) hb (Nat.le_refl _) (Nat.lt_succ_self _))

end Go.Proofs.Ytnmmgegnioihmaa
namespace Go.Proofs.Ytnmmgegnioihmaa
open Go.RowKit

set_option maxHeartbeats 1000000 in
theorem hMul_calls (va vb : Value) (x y : Zr) (w : World) (ha : IsZ w va x) (hb : IsZ w vb y) (hlen : x.ws.length + y.ws.length ≤ 274877906944) :
    Calls Try.prog 139 #[va, vb] w (PostZ w (x.val * y.val)) := by
  obtain ⟨v1, rfl, hz⟩ := ha
  obtain ⟨v2, rfl, hy⟩ := hb
  have HL1 : Hid (x.ws.length ≤ 4398046511104) := Lib.hid (by omega)
  have HL2 : Hid (y.ws.length ≤ 4398046511104) := Lib.hid (by omega)
  have HD : Hid ((dig (val x.ws)).length + (dig (val y.ws)).length ≤ 2199023255552) := Lib.hid (by have := dig_val_len hz.1; have := dig_val_len hy.1; omega)
  have HD2 : Hid ((dig (val x.ws * val y.ws)).length ≤ 4398046511104) := Lib.hid (by
    have h1 := hmul_len (k := 0) (n := val x.ws * val y.ws) (rgh_dig (val x.ws)) (rgh_dig (val y.ws)) (by rw [List.drop_zero, hval_dig, hval_dig]; exact Nat.le_refl _)
    have := HD.out
    omega)
  have HS : Hid (sgn (!(x.neg == y.neg)) (hval (dig (val x.ws * val y.ws))) = x.val * y.val) := Lib.hid (by rw [hval_dig]; exact zmul_val x y _ rfl)
  clear hlen
  go_enter Try.func139, Try.ntmps139
  go_wp2
  generalize hw0 : World.alloc _ _ = w0
  have hb0 : Below w.heap.size w w0 := by subst hw0; exact bl_alloc2 (bl_alloc2 (bl_alloc _ _) _) _
  have t1 : Box2 w w0 (· = w.heap.size + 2) w.heap.size (.bool x.neg) v1 := Box2.mk (by omega) (by subst hw0; refine ⟨?_, ?_⟩ <;> go_simp)
  have t2 : Box2 w w0 (· = w.heap.size + 2) (w.heap.size + 1) (.bool y.neg) v2 := Box2.mk (by omega) (by subst hw0; refine ⟨?_, ?_⟩ <;> go_simp)
  have k0 : Two (w.heap.size + 2) w0 := by subst hw0; exact Two.alloc _ _ _ (by simp)
  have f0 : Fr w w0 (· = w.heap.size + 2) w0 := Fr.start hb0
  have z0 : w0.heap.size = w.heap.size + 3 := by subst hw0; simp
  clear hw0
  go_region_held3 (fun W => Fr w w0 (· = w.heap.size + 2) W) (first | assumption | exact f0.drew | exact Fr.call (by assumption) (by assumption) | exact Fr.put2 f2 (by rfl) (by omega) _ _) (first
    | (go_at_call 162; (with_reducible refine (hhalves_calls _ _ _ (hz.below (Fr.b (by assumption))) HL1.out).mono ?_); rintro e w1 ⟨vx, rfl, hh1, hb1⟩)
    | (go_at_call 162; (with_reducible refine (hhalves_calls _ _ _ (hy.below (Fr.b (by assumption))) HL2.out).mono ?_); rintro e w2 ⟨vy, rfl, hh2, hb2⟩)
    | (go_at_call 163; (with_reducible refine (hmul_calls _ _ _ _ _ (hh1.is.below hb2) hh2.is HD.out).mono ?_); rintro e w3 ⟨vo, rfl, ho, hb3⟩; rw [hval_dig, hval_dig] at ho)
    | (go_at_call 161; (with_reducible refine (hof_calls _ _ _ _ ho.is HD2.out).mono ?_); rintro e w4 ⟨z, v, HZ, rfl, hN, hb4⟩; rw [HS.out] at HZ; obtain ⟨v3, rfl, hr, A, c, rfl, hN⟩ := hN; have f2 := Fr.call (by assumption) hb4; obtain ⟨⟨x0, y0⟩, ⟨x1, y1⟩, g0, g1⟩ := (Fr.two f2 k0).cells))
  go_wp2
  have s1 := hb1.size
  have s2 := hb2.size
  have s3 := hb3.size
  refine bodyPost_ret (v := .agg #[.bool _, .slice _ _ _]) (by simp [results, Try.results139, go_sem, y0, y1]) rfl (postZ_put2 (n1 := w3.heap.size) ⟨_, rfl, hr, A, c, rfl, hN⟩ HZ.out f2.b (by omega) (by simp at s1 s2 s3; omega))
theorem dig_add_len {X Y n : Nat} (h : n ≤ X + Y) : (dig n).length ≤ (dig X).length + (dig Y).length + 1 := by
  refine dig_len ?_
  have h1 := lt_dig_len X
  have h2 := lt_dig_len Y
  have h4 : (65536 : Nat) ^ (dig X).length ≤ 65536 ^ ((dig X).length + (dig Y).length) := Nat.pow_le_pow_right (by omega) (by omega)
  have h5 : (65536 : Nat) ^ (dig Y).length ≤ 65536 ^ ((dig X).length + (dig Y).length) := Nat.pow_le_pow_right (by omega) (by omega)
  rw [Nat.pow_succ]
  generalize (65536 : Nat) ^ ((dig X).length + (dig Y).length) = p at *
  omega
theorem NH.fr {n0 k : Nat} {w w2 W : World} {v : Value} {xs : List Nat} (h : NH n0 w2 v xs) (hf : Fr w w2 (· = k) W) (hk : k < n0) : IsH W v xs := by
  obtain ⟨hr, A, c, e, h⟩ := h
  refine ⟨hr, A, c, e, ⟨h.le, h.mx, h.nl, fun hx => ?_⟩⟩
  obtain ⟨b, off, e1, hc⟩ := h.rd hx
  obtain ⟨b', off', e2, hn, _⟩ := h.own hx
  rw [e1] at e2; cases e2
  exact ⟨b, off, e1, fun j x hj => by rw [← hc j x hj]; exact World.cell?_of_block (w := w2) (hf.block _ (World.block_lt_of_cell? w2 _ (hc j x hj)) (by intro e; dsimp only at e; omega))⟩
set_option maxHeartbeats 2000000 in
theorem hAdd_calls (va vb : Value) (x y : Zr) (w : World) (ha : IsZ w va x) (hb : IsZ w vb y) (hlen : x.ws.length + y.ws.length ≤ 274877906944) :
    Calls Try.prog 140 #[va, vb] w (PostZ w (x.val + y.val)) := by
  obtain ⟨v1, rfl, hz⟩ := ha
  obtain ⟨v2, rfl, hy⟩ := hb
  have HL1 : Hid (x.ws.length ≤ 4398046511104) := Lib.hid (by omega)
  have HL2 : Hid (y.ws.length ≤ 4398046511104) := Lib.hid (by omega)
  have HD : Hid ((dig (val x.ws)).length ≤ 549755813888 ∧ (dig (val y.ws)).length ≤ 549755813888) := Lib.hid (by have := dig_val_len hz.1; have := dig_val_len hy.1; omega)
  obtain ⟨X, hX⟩ : ∃ X, X = val x.ws := ⟨_, rfl⟩
  obtain ⟨Y, hY⟩ : ∃ Y, Y = val y.ws := ⟨_, rfl⟩
  have HX := Lib.hid hX
  have HY := Lib.hid hY
  have HDs : Hid (∀ n, n ≤ X + Y → (dig n).length ≤ 4398046511104) := Lib.hid fun n hn => by
    have h1 := dig_add_len hn
    have h2 := HD.out
    rw [← hX, ← hY] at h2
    omega
  rw [← hX, ← hY] at HD
  clear hlen
  go_enter Try.func140, Try.ntmps140
  go_wp2
  generalize hw0 : World.alloc _ _ = w0
  have hb0 : Below w.heap.size w w0 := by subst hw0; exact bl_alloc2 (bl_alloc2 (bl_alloc _ _) _) _
  have t1 : Box2 w w0 (· = w.heap.size + 2) w.heap.size (.bool x.neg) v1 := Box2.mk (by omega) (by subst hw0; refine ⟨?_, ?_⟩ <;> go_simp)
  have t2 : Box2 w w0 (· = w.heap.size + 2) (w.heap.size + 1) (.bool y.neg) v2 := Box2.mk (by omega) (by subst hw0; refine ⟨?_, ?_⟩ <;> go_simp)
  have k0 : Two (w.heap.size + 2) w0 := by subst hw0; exact Two.alloc _ _ _ (by simp)
  have f0 : Fr w w0 (· = w.heap.size + 2) w0 := Fr.start hb0
  have z0 : w0.heap.size = w.heap.size + 3 := by subst hw0; simp
  clear hw0 hX hY
  go_region_held3 (fun W => Fr w w0 (· = w.heap.size + 2) W) (first | assumption | exact f0.drew | exact Fr.call (by assumption) (by assumption)) (first
    | (go_at_call 162; (with_reducible refine (hhalves_calls _ _ _ (hz.below (Fr.b (by assumption))) HL1.out).mono ?_); rintro e w1 ⟨vx, rfl, hh1, hb1⟩; rw [← HX.out] at hh1; have f1 := Fr.call (by assumption) hb1)
    | (go_at_call 162; (with_reducible refine (hhalves_calls _ _ _ (hy.below (Fr.b (by assumption))) HL2.out).mono ?_); rintro e w2 ⟨vy, rfl, hh2, hb2⟩; rw [← HY.out] at hh2; have f2 := Fr.call (by assumption) hb2))
  have F2 : Fr w w2 (· = w.heap.size + 2) w2 := Fr.start f2.b
  have T1 : Box2 w w2 (· = w.heap.size + 2) w.heap.size (.bool x.neg) v1 := Box2.mk (by omega) (t1 _ f2)
  have T2 : Box2 w w2 (· = w.heap.size + 2) (w.heap.size + 1) (.bool y.neg) v2 := Box2.mk (by omega) (t2 _ f2)
  have K0 : Two (w.heap.size + 2) w2 := f2.two k0
  obtain ⟨u1, u2⟩ := T1 _ F2
  obtain ⟨u3, u4⟩ := T2 _ F2
  replace hh1 := (hh1.below hb2).mono (n1 := w.heap.size + 3) (by simp; omega)
  replace hh2 := hh2.mono (n1 := w.heap.size + 3) (by have := f1.size; omega)
  have HCL : Hid ((dig X).length ≤ 35184372088832 ∧ (dig Y).length ≤ 35184372088832) := Lib.hid (by have := HD.out; omega)
  have s2 := f2.size
  clear f0 f1 hb1 hz hy t1 t2 hb2 k0
  by_cases hne : x.neg = y.neg
  · have hcd : (x.neg == y.neg) = true := by simpa using hne
    have HS : Hid (sgn x.neg (hval (dig (X + Y))) = x.val + y.val) := Lib.hid (by rw [hval_dig, HX.out, HY.out]; exact zadd_same hne)
    have HA : Hid ((dig X).length ≤ 4398046511104 ∧ (dig Y).length ≤ 4398046511104) := Lib.hid (by have := HD.out; omega)
    clear hne
    go_wp2
    go_region_held3 (fun W => Fr w w2 (· = w.heap.size + 2) W) (first | assumption | exact Fr.drew (by assumption) | exact Fr.call (by assumption) (by assumption) | exact Fr.put2 f9 (by rfl) (by omega) _ _) (first
      | (go_at_call 164; (with_reducible refine (hadd_calls _ _ _ _ _ (NH.fr hh1 (by assumption) (by omega)) (NH.fr hh2 (by assumption) (by omega)) HA.out).mono ?_); rintro e w3 ⟨vo, rfl, ho, hb3⟩; rw [hval_dig, hval_dig] at ho)
      | (go_at_call 161; (with_reducible refine (hof_calls _ _ _ _ ho.is (HDs.out _ (Nat.le_refl _))).mono ?_); rintro e w4 ⟨z, v, HZ, rfl, hN, hb4⟩; rw [HS.out] at HZ; obtain ⟨v3, rfl, hr, A, c, rfl, hN⟩ := hN; have f9 := Fr.call (by assumption) hb4; obtain ⟨⟨x0, y0⟩, ⟨x1, y1⟩, g0, g1⟩ := (Fr.two f9 K0).cells))
    go_wp2
    have s2 := f2.size
    have s3 := hb3.size
    refine bodyPost_ret (v := .agg #[.bool _, .slice _ _ _]) (by simp [results, Try.results140, go_sem, y0, y1]) rfl (postZ_put2 (n1 := w3.heap.size) ⟨_, rfl, hr, A, c, rfl, hN⟩ HZ.out f9.b (by omega) (by simp at s3; omega))
  have hcd : (x.neg == y.neg) = false := by simpa using hne
  clear hne
  by_cases hle : Y ≤ X
  · have hc0 : 0 ≤ hcmp X Y := by
      rcases Nat.lt_or_eq_of_le hle with h | h
      · rw [hcmp_gt h]; omega
      · rw [hcmp_eq h.symm]; omega
    have HS : Hid (sgn x.neg (hval (dig (X - Y))) = x.val + y.val) := Lib.hid (by rw [hval_dig, HX.out, HY.out]; exact zadd_ge hcd (by rw [← HX.out, ← HY.out]; omega))
    have HSS : Hid (X - Y ≤ X + Y) := Lib.hid (by omega)
    have HLs : Hid ((dig X).length ≤ 4398046511104) := Lib.hid (HDs.out _ (by omega))
    have HLL : Hid ((dig Y).length ≤ (dig X).length) := Lib.hid (dig_len_mono (by omega))
    have HVV : Hid (hval (dig Y) ≤ hval (dig X)) := Lib.hid (by rw [hval_dig, hval_dig]; omega)
    clear hle
    go_wp2_with (go_at_call 165; (with_reducible refine (hcmp_calls _ _ (dig X) (dig Y) _ (NH.fr hh1 F2 (by omega)) (NH.fr hh2 F2 (by omega)) HCL.out).mono ?_); rintro e w' ⟨rfl, rfl⟩; rw [hval_dig, hval_dig])
    go_region_held3 (fun W => Fr w w2 (· = w.heap.size + 2) W) (first | assumption | exact Fr.drew (by assumption) | exact Fr.call (by assumption) (by assumption) | exact Fr.put2 f9 (by rfl) (by omega) _ _) (first
      | (go_at_call 166; (with_reducible refine (hsub_calls _ _ _ _ _ (NH.fr hh1 (by assumption) (by omega)) (NH.fr hh2 (by assumption) (by omega)) HLs.out HLL.out HVV.out).mono ?_); rintro e w3 ⟨vo, rfl, ho, hb3⟩; rw [hval_dig, hval_dig] at ho)
      | (go_at_call 161; (with_reducible refine (hof_calls _ _ _ _ ho.is (HDs.out _ HSS.out)).mono ?_); rintro e w4 ⟨z, v, HZ, rfl, hN, hb4⟩; rw [HS.out] at HZ; obtain ⟨v3, rfl, hr, A, c, rfl, hN⟩ := hN; have f9 := Fr.call (by assumption) hb4; obtain ⟨⟨x0, y0⟩, ⟨x1, y1⟩, g0, g1⟩ := (Fr.two f9 K0).cells))
    go_wp2
    have s2 := f2.size
    have s3 := hb3.size
    refine bodyPost_ret (v := .agg #[.bool _, .slice _ _ _]) (by simp [results, Try.results140, go_sem, y0, y1]) rfl (postZ_put2 (n1 := w3.heap.size) ⟨_, rfl, hr, A, c, rfl, hN⟩ HZ.out f9.b (by omega) (by simp at s3; omega))
  · have hc0 : hcmp X Y < 0 := by rw [hcmp_lt (by omega)]; omega
    have HS : Hid (sgn y.neg (hval (dig (Y - X))) = x.val + y.val) := Lib.hid (by rw [hval_dig, HX.out, HY.out]; exact zadd_lt hcd (by rw [← HX.out, ← HY.out]; omega))
    have HSS : Hid (Y - X ≤ X + Y) := Lib.hid (by omega)
    have HLs : Hid ((dig Y).length ≤ 4398046511104) := Lib.hid (HDs.out _ (by omega))
    have HLL : Hid ((dig X).length ≤ (dig Y).length) := Lib.hid (dig_len_mono (by omega))
    have HVV : Hid (hval (dig X) ≤ hval (dig Y)) := Lib.hid (by rw [hval_dig, hval_dig]; omega)
    clear hle
    go_wp2_with (go_at_call 165; (with_reducible refine (hcmp_calls _ _ (dig X) (dig Y) _ (NH.fr hh1 F2 (by omega)) (NH.fr hh2 F2 (by omega)) HCL.out).mono ?_); rintro e w' ⟨rfl, rfl⟩; rw [hval_dig, hval_dig])
    go_region_held3 (fun W => Fr w w2 (· = w.heap.size + 2) W) (first | assumption | exact Fr.drew (by assumption) | exact Fr.call (by assumption) (by assumption) | exact Fr.put2 f9 (by rfl) (by omega) _ _) (first
      | (go_at_call 166; (with_reducible refine (hsub_calls _ _ _ _ _ (NH.fr hh2 (by assumption) (by omega)) (NH.fr hh1 (by assumption) (by omega)) HLs.out HLL.out HVV.out).mono ?_); rintro e w3 ⟨vo, rfl, ho, hb3⟩; rw [hval_dig, hval_dig] at ho)
      | (go_at_call 161; (with_reducible refine (hof_calls _ _ _ _ ho.is (HDs.out _ HSS.out)).mono ?_); rintro e w4 ⟨z, v, HZ, rfl, hN, hb4⟩; rw [HS.out] at HZ; obtain ⟨v3, rfl, hr, A, c, rfl, hN⟩ := hN; have f9 := Fr.call (by assumption) hb4; obtain ⟨⟨x0, y0⟩, ⟨x1, y1⟩, g0, g1⟩ := (Fr.two f9 K0).cells))
    go_wp2
    have s2 := f2.size
    have s3 := hb3.size
    refine bodyPost_ret (v := .agg #[.bool _, .slice _ _ _]) (by simp [results, Try.results140, go_sem, y0, y1]) rfl (postZ_put2 (n1 := w3.heap.size) ⟨_, rfl, hr, A, c, rfl, hN⟩ HZ.out f9.b (by omega) (by simp at s3; omega))
end Go.Proofs.Ytnmmgegnioihmaa
namespace Go.Proofs.Ytnmmgegnioihmaa
open Go.RowKit

theorem pos_digs {n : Nat} : (0 : Int) < ((dig n).length : Int) ↔ 0 < n := by
  constructor
  · intro h
    rcases Nat.eq_zero_or_pos n with rfl | h1
    · rw [dig_zero] at h; simp at h
    · exact h1
  · intro h
    rcases Nat.eq_zero_or_pos (dig n).length with h1 | h1
    · have := dig_eq_nil.1 (List.length_eq_zero_iff.1 h1); omega
    · omega
/-- two boxes of integers that are read, their halves taken -/
def Halved (w w0 : World) (X Y : Nat) (vx vy : Value) (W : World) : Prop := NH w0.heap.size W vx (dig X) ∧ NH w0.heap.size W vy (dig Y) ∧ Below w0.heap.size w0 W
set_option maxHeartbeats 2000000 in
theorem hGcd_calls (va vb : Value) (x y : Zr) (w : World) (ha : IsZ w va x) (hb : IsZ w vb y) (hlen : x.ws.length + y.ws.length ≤ 137438953472) :
    Calls Try.prog 153 #[va, vb] w (PostZ w (Int.gcd x.val y.val : Nat)) := by
  obtain ⟨v1, rfl, hz⟩ := ha
  obtain ⟨v2, rfl, hy⟩ := hb
  have hG : Int.gcd x.val y.val = Nat.gcd (val x.ws) (val y.ws) := by
    unfold Zr.val Int.gcd
    cases x.neg <;> cases y.neg <;> simp
  rw [hG]
  clear hG
  have HL1 : Hid (x.ws.length ≤ 4398046511104) := Lib.hid (by omega)
  have HL2 : Hid (y.ws.length ≤ 4398046511104) := Lib.hid (by omega)
  obtain ⟨X0, hX⟩ : ∃ X, X = val x.ws := ⟨_, rfl⟩
  obtain ⟨Y0, hY⟩ : ∃ Y, Y = val y.ws := ⟨_, rfl⟩
  obtain ⟨Ln, hLn1, hLn2, hLn⟩ : ∃ Ln, (dig X0).length ≤ Ln ∧ (dig Y0).length ≤ Ln ∧ Ln ≤ 549755813888 := ⟨2 * (x.ws.length + y.ws.length), by have := dig_val_len hz.1; rw [hX]; omega, by have := dig_val_len hy.1; rw [hY]; omega, by omega⟩
  have HX := Lib.hid hX
  have HY := Lib.hid hY
  rw [← hX, ← hY]
  clear hlen hX hY
  go_enter Try.func153, Try.ntmps153
  go_wp2
  generalize hw0 : World.alloc _ _ = w0
  have hb0 : Below w.heap.size w w0 := by subst hw0; exact bl_alloc2 (bl_alloc2 (bl_alloc _ _) _) _
  have t1 : Box2 w w0 (· = w.heap.size + 2) w.heap.size (.bool x.neg) v1 := Box2.mk (by omega) (by subst hw0; refine ⟨?_, ?_⟩ <;> go_simp)
  have t2 : Box2 w w0 (· = w.heap.size + 2) (w.heap.size + 1) (.bool y.neg) v2 := Box2.mk (by omega) (by subst hw0; refine ⟨?_, ?_⟩ <;> go_simp)
  have k0 : Two (w.heap.size + 2) w0 := by subst hw0; exact Two.alloc _ _ _ (by simp)
  have f0 : Fr w w0 (· = w.heap.size + 2) w0 := Fr.start hb0
  have z0 : w0.heap.size = w.heap.size + 3 := by subst hw0; simp
  clear hw0
  go_region_held3 (fun W => Fr w w0 (· = w.heap.size + 2) W) (first | assumption | exact f0.drew | exact Fr.call (by assumption) (by assumption)) (first
    | (go_at_call 162; (with_reducible refine (hhalves_calls _ _ _ (hz.below (Fr.b (by assumption))) HL1.out).mono ?_); rintro e w1 ⟨vx, rfl, hh1, hb1⟩; rw [← HX.out] at hh1; have f1 := Fr.call (by assumption) hb1)
    | (go_at_call 162; (with_reducible refine (hhalves_calls _ _ _ (hy.below (Fr.b (by assumption))) HL2.out).mono ?_); rintro e w2 ⟨vy, rfl, hh2, hb2⟩; rw [← HY.out] at hh2; have f2 := Fr.call (by assumption) hb2))
  have K0 : Two (w.heap.size + 2) w2 := f2.two k0
  have hx2 := hh1.is.below hb2
  have hy2 := hh2.is
  have B2 := f2.b
  have z2 := f2.size
  clear f0 f1 f2 hb1 hz hy t1 t2 hb2 k0 hb0 hh1 hh2 HX HY HL1 HL2
  rename_i hHeld
  clear hHeld
  go_wp2
  go_loopg [5, 6] Y0 (fun Y vx vy wr => ∃ X, Hid (Nat.gcd X Y = Nat.gcd X0 Y0) ∧ (dig X).length ≤ Ln ∧ (dig Y).length ≤ Ln ∧ IsH wr vx (dig X) ∧ IsH wr vy (dig Y) ∧ Below w2.heap.size w2 wr)
  case atStart => exact ⟨X0, rfl, hLn1, hLn2, hx2, hy2, Below.refl _ _⟩
  case round =>
    obtain ⟨X, HG, hl1, hl2, hx, hy, hbr⟩ := hrel
    have hxs := hx.slice
    have hys := hy.slice
    obtain ⟨Bx, dx, rfl⟩ := hxs
    obtain ⟨By, dy, rfl⟩ := hys
    by_cases hgt : (0 : Int) < ((dig gk).length : Int)
    · have hY := pos_digs.1 hgt
      have hne : dig gk ≠ [] := by intro h; rw [h] at hgt; simp at hgt
      have hdv := hdiv_calls _ _ _ _ _ hx hy (trim_dig _) hne (by omega)
      rw [hval_dig, hval_dig] at hdv
      have hlt := Nat.mod_lt X hY
      have hstep := gcd_step X gk
      rw [HG.out] at hstep
      have HS := Lib.hid hstep
      have HLT := Lib.hid hlt
      clear hstep hY hlt
      generalize X % gk = M at *
      generalize X / gk = D at *
      go_wp2_with (go_at_call 171; refine hdv.mono ?_; rintro e w3 ⟨v3, v4, rfl, hN3, hN4, hbd⟩)
      go_roundg M
      case measure => exact HLT.out
      case rel => exact ⟨gk, HS.out.symm, hl2, Nat.le_trans (dig_len_mono (Nat.le_of_lt HLT.out)) hl2, hy.below hbd, hN4.is, bl_trans hbr hbd⟩
    · have h0 : gk = 0 := by
        rcases Nat.eq_zero_or_pos gk with h | h
        · exact h
        · exact absurd (pos_digs.2 h) hgt
      subst h0
      have hX : X = Nat.gcd X0 Y0 := by rw [← HG.out, Nat.gcd_zero_right]
      have HS : Hid (sgn false (hval (dig X)) = ((Nat.gcd X0 Y0 : Nat) : Int)) := Lib.hid (by rw [hval_dig, hX]; rfl)
      have hlX : Hid ((dig X).length ≤ 4398046511104) := Lib.hid (by omega)
      clear hX
      go_wp2_with (go_at_call 161; (with_reducible refine (hof_calls _ _ _ _ hx hlX.out).mono ?_); rintro e w4 ⟨z, v, HZ, rfl, hN, hb4⟩; rw [HS.out] at HZ; obtain ⟨v3, rfl, hr, A, c, rfl, hN⟩ := hN; obtain ⟨⟨x0, y0⟩, ⟨x1, y1⟩, g0, g1⟩ := (K0.below (bl_trans hbr hb4)).cells)
      have s3 := hbr.size
      refine bodyPost_ret (v := .agg #[.bool _, .slice _ _ _]) (by simp [results, Try.results153, go_sem, y0, y1]) rfl (postZ_put2 (n1 := wr.heap.size) ⟨_, rfl, hr, A, c, rfl, hN⟩ HZ.out (bl_trans B2 (bl_trans hbr hb4)) (by omega) (by omega))
end Go.Proofs.Ytnmmgegnioihmaa
namespace Go.Proofs.Ytnmmgegnioihmaa
open Go.RowKit

theorem sgn_div (xn : Bool) {X Y : Nat} (h : X % Y = 0) : sgn xn (X / Y) = sgn xn X / (Y : Int) := by
  have hd : Y ∣ X := Nat.dvd_of_mod_eq_zero h
  have hd2 : (Y : Int) ∣ (X : Int) := Int.natCast_dvd_natCast.2 hd
  cases xn
  · simp [sgn]
  · simp only [sgn, if_true]; rw [Int.neg_ediv_of_dvd hd2]; simp
set_option maxHeartbeats 2000000 in
theorem hDiv_calls (va vb : Value) (xn : Bool) (xs ys : List Nat) (w : World) (ha : IsZ w va ⟨xn, xs⟩) (hb : IsZ w vb ⟨false, ys⟩) (h0 : 0 < val ys) (hex : val xs % val ys = 0) (hlen : xs.length + ys.length ≤ 137438953472) :
    Calls Try.prog 154 #[va, vb] w (PostDM w (sgn xn (val xs) / (val ys : Int)) 0) := by
  obtain ⟨v1, rfl, hz⟩ := ha
  obtain ⟨v2, rfl, hy⟩ := hb
  dsimp only at hz hy
  rw [← sgn_div xn hex]
  have HL1 : Hid (xs.length ≤ 4398046511104) := Lib.hid (by omega)
  have HL2 : Hid (ys.length ≤ 4398046511104) := Lib.hid (by omega)
  have HDX : Hid ((dig (val xs)).length + (dig (val ys)).length ≤ 2199023255552) := Lib.hid (by have := dig_val_len hz.1; have := dig_val_len hy.1; omega)
  have hd9 : (dig (val ys)).length ≤ 9223372036854775807 := by have := HDX.out; omega
  obtain ⟨X, hX⟩ : ∃ X, X = val xs := ⟨_, rfl⟩
  obtain ⟨Y, hY⟩ : ∃ Y, Y = val ys := ⟨_, rfl⟩
  have HX := Lib.hid hX
  have HY := Lib.hid hY
  rw [← hX, ← hY] at hex HDX ⊢
  rw [← hY] at h0 hd9
  have hne : dig Y ≠ [] := fun h => by have := dig_eq_nil.1 h; omega
  have hne0 : (((dig Y).length : Int) == 0) = false := by
    rw [beq_eq_false_iff_ne]; intro h; exact hne (List.length_eq_zero_iff.1 (by omega))
  have HNE := Lib.hid hne
  have HEX := Lib.hid hex
  have HDQ : Hid ((dig (X / Y)).length ≤ 4398046511104) := Lib.hid (by have := dig_len_mono (Nat.div_le_self X Y); have := HDX.out; omega)
  have HSQ : Hid (∀ b, sgn b (hval (dig (X / Y))) = sgn b (X / Y)) := Lib.hid fun b => by rw [hval_dig]
  have HSR : Hid (sgn false (hval (dig 0)) = 0) := Lib.hid (by rw [hval_dig]; rfl)
  have HD0 : Hid ((dig 0).length ≤ 4398046511104) := Lib.hid (by rw [dig_zero]; simp)
  have H00 : Hid ((dig 0).length = 0) := Lib.hid (by rw [dig_zero]; rfl)
  clear hlen hX hY hex hne h0
  cases xn
  · go_enter Try.func154, Try.ntmps154
    go_wp2
    generalize hw0 : World.alloc _ _ = w0
    have hb0 : Below w.heap.size w w0 := by subst hw0; exact bl_alloc2 (bl_alloc2 (bl_alloc2 (bl_alloc _ _) _) _) _
    have t1 : Box2 w w0 (fun _ => False) w.heap.size (.bool false) v1 := Box2.mk (fun h => h) (by subst hw0; refine ⟨?_, ?_⟩ <;> go_simp)
    have t2 : Box2 w w0 (fun _ => False) (w.heap.size + 1) (.bool false) v2 := Box2.mk (fun h => h) (by subst hw0; refine ⟨?_, ?_⟩ <;> go_simp)
    have k1 : Two (w.heap.size + 2) w0 := by subst hw0; exact (Two.alloc _ _ _ (by simp)).below (bl_alloc _ _)
    have k2 : Two (w.heap.size + 3) w0 := by subst hw0; exact Two.alloc _ _ _ (by simp)
    have f0 : Fr w w0 (fun _ => False) w0 := Fr.start hb0
    have z0 : w0.heap.size = w.heap.size + 4 := by subst hw0; simp
    clear hw0
    go_region_held3 (fun W => Fr w w0 (fun _ => False) W) (first | assumption | exact f0.drew | exact Fr.call (by assumption) (by assumption)) (first
      | (go_at_call 162; (with_reducible refine (hhalves_calls _ _ _ (hz.below (Fr.b (by assumption))) HL1.out).mono ?_); rintro e w1 ⟨vx, rfl, hh1, hb1⟩; rw [← HX.out] at hh1; have f1 := Fr.call (by assumption) hb1)
      | (go_at_call 162; (with_reducible refine (hhalves_calls _ _ _ (hy.below (Fr.b (by assumption))) HL2.out).mono ?_); rintro e w2 ⟨vy, rfl, hh2, hb2⟩; rw [← HY.out] at hh2; have f2 := Fr.call (by assumption) hb2))
    have hx2 := hh1.is.below hb2
    have hy2 := hh2.is
    have B2 := f2.b
    have z2 := f2.size
    have hys := hy2.slice
    obtain ⟨By, dy, rfl⟩ := hys
    obtain ⟨u1, _⟩ := t1 _ f2
    obtain ⟨u3, _⟩ := t2 _ f2
    have hdv := hdiv_calls _ _ _ _ _ hx2 hy2 (trim_dig Y) HNE.out HDX.out
    rw [hval_dig, hval_dig, HEX.out] at hdv
    clear hx2 hy2 hh1 hh2 f0 f1 hb1 hb2
    go_wp2_with (first
      | (go_at_call 171; (with_reducible refine hdv.mono ?_); rintro e w3 ⟨v3, v4, rfl, hN3, hN4, hbd⟩; replace u1 := bl_cell hbd u1; replace u3 := bl_cell hbd u3; have h4s : ∃ A c, v4 = Value.slice A 0 c := (by have h := hN4.is; rw [dig_zero] at h; exact h.slice); obtain ⟨R4, r4, rfl⟩ := h4s)
      | (go_at_call 161; (with_reducible refine (hof_calls _ _ _ _ hN3.is HDQ.out).mono ?_); rintro e w4 ⟨z5, v5, HZ5, rfl, hN5, hb5⟩; rw [HSQ.out] at HZ5; obtain ⟨v6, rfl, r6, A6, c6, rfl, hN6⟩ := hN5; replace u1 := bl_cell hb5 u1; replace u3 := bl_cell hb5 u3)
      | (go_at_call 161; (with_reducible refine (hof_calls _ _ _ _ (hN4.is.below hb5) HD0.out).mono ?_); rintro e w5 ⟨z7, v7, HZ7, rfl, hN7, hb7⟩; rw [HSR.out] at HZ7; obtain ⟨v8, rfl, r8, A8, c8, rfl, hN8⟩ := hN7; obtain ⟨⟨x0, y0⟩, ⟨x1, y1⟩, g0, g1⟩ := ((f2.two k1).below (bl_trans hbd (bl_trans hb5 hb7))).cells; obtain ⟨⟨x2, y2⟩, ⟨x3, y3⟩, g2, g3⟩ := ((f2.two k2).below (bl_trans hbd (bl_trans hb5 hb7))).cells))
    have s3 := hbd.size
    have s5 := hb5.size
    have hZ5 : NZ w3.heap.size w4 (.agg #[.bool z5.neg, .slice A6 z5.ws.length c6]) z5 := ⟨_, rfl, r6, A6, c6, rfl, hN6⟩
    have hZ7 : NZ w4.heap.size w5 (.agg #[.bool z7.neg, .slice A8 z7.ws.length c8]) z7 := ⟨_, rfl, r8, A8, c8, rfl, hN8⟩
    refine bodyPost_ret (v := .tuple #[.agg #[.bool _, .slice _ _ _], .agg #[.bool _, .slice _ _ _], .int .i64 0]) (by simp [results, Try.results154, go_sem, y0, y1, y2, y3]) rfl (dm_post (n1 := w2.heap.size) ((hZ5.below hb7).mono s3) (hZ7.mono (Nat.le_trans s3 s5)) HZ5.out HZ7.out (bl_trans B2 (bl_trans hbd (bl_trans hb5 hb7))) (by omega) (by omega) (by omega) (by omega))
  · go_enter Try.func154, Try.ntmps154
    go_wp2
    generalize hw0 : World.alloc _ _ = w0
    have hb0 : Below w.heap.size w w0 := by subst hw0; exact bl_alloc2 (bl_alloc2 (bl_alloc2 (bl_alloc _ _) _) _) _
    have t1 : Box2 w w0 (fun _ => False) w.heap.size (.bool true) v1 := Box2.mk (fun h => h) (by subst hw0; refine ⟨?_, ?_⟩ <;> go_simp)
    have t2 : Box2 w w0 (fun _ => False) (w.heap.size + 1) (.bool false) v2 := Box2.mk (fun h => h) (by subst hw0; refine ⟨?_, ?_⟩ <;> go_simp)
    have k1 : Two (w.heap.size + 2) w0 := by subst hw0; exact (Two.alloc _ _ _ (by simp)).below (bl_alloc _ _)
    have k2 : Two (w.heap.size + 3) w0 := by subst hw0; exact Two.alloc _ _ _ (by simp)
    have f0 : Fr w w0 (fun _ => False) w0 := Fr.start hb0
    have z0 : w0.heap.size = w.heap.size + 4 := by subst hw0; simp
    clear hw0
    go_region_held3 (fun W => Fr w w0 (fun _ => False) W) (first | assumption | exact f0.drew | exact Fr.call (by assumption) (by assumption)) (first
      | (go_at_call 162; (with_reducible refine (hhalves_calls _ _ _ (hz.below (Fr.b (by assumption))) HL1.out).mono ?_); rintro e w1 ⟨vx, rfl, hh1, hb1⟩; rw [← HX.out] at hh1; have f1 := Fr.call (by assumption) hb1)
      | (go_at_call 162; (with_reducible refine (hhalves_calls _ _ _ (hy.below (Fr.b (by assumption))) HL2.out).mono ?_); rintro e w2 ⟨vy, rfl, hh2, hb2⟩; rw [← HY.out] at hh2; have f2 := Fr.call (by assumption) hb2))
    have hx2 := hh1.is.below hb2
    have hy2 := hh2.is
    have B2 := f2.b
    have z2 := f2.size
    have hys := hy2.slice
    obtain ⟨By, dy, rfl⟩ := hys
    obtain ⟨u1, _⟩ := t1 _ f2
    obtain ⟨u3, _⟩ := t2 _ f2
    have hdv := hdiv_calls _ _ _ _ _ hx2 hy2 (trim_dig Y) HNE.out HDX.out
    rw [hval_dig, hval_dig, HEX.out] at hdv
    clear hx2 hy2 hh1 hh2 f0 f1 hb1 hb2
    go_wp2_with (first
      | (go_at_call 171; (with_reducible refine hdv.mono ?_); rintro e w3 ⟨v3, v4, rfl, hN3, hN4, hbd⟩; replace u1 := bl_cell hbd u1; replace u3 := bl_cell hbd u3; have h4s : ∃ A c, v4 = Value.slice A 0 c := (by have h := hN4.is; rw [dig_zero] at h; exact h.slice); obtain ⟨R4, r4, rfl⟩ := h4s)
      | (go_at_call 161; (with_reducible refine (hof_calls _ _ _ _ hN3.is HDQ.out).mono ?_); rintro e w4 ⟨z5, v5, HZ5, rfl, hN5, hb5⟩; rw [HSQ.out] at HZ5; obtain ⟨v6, rfl, r6, A6, c6, rfl, hN6⟩ := hN5; replace u1 := bl_cell hb5 u1; replace u3 := bl_cell hb5 u3)
      | (go_at_call 161; (with_reducible refine (hof_calls _ _ _ _ (hN4.is.below hb5) HD0.out).mono ?_); rintro e w5 ⟨z7, v7, HZ7, rfl, hN7, hb7⟩; rw [HSR.out] at HZ7; obtain ⟨v8, rfl, r8, A8, c8, rfl, hN8⟩ := hN7; obtain ⟨⟨x0, y0⟩, ⟨x1, y1⟩, g0, g1⟩ := ((f2.two k1).below (bl_trans hbd (bl_trans hb5 hb7))).cells; obtain ⟨⟨x2, y2⟩, ⟨x3, y3⟩, g2, g3⟩ := ((f2.two k2).below (bl_trans hbd (bl_trans hb5 hb7))).cells))
    have s3 := hbd.size
    have s5 := hb5.size
    have hZ5 : NZ w3.heap.size w4 (.agg #[.bool z5.neg, .slice A6 z5.ws.length c6]) z5 := ⟨_, rfl, r6, A6, c6, rfl, hN6⟩
    have hZ7 : NZ w4.heap.size w5 (.agg #[.bool z7.neg, .slice A8 z7.ws.length c8]) z7 := ⟨_, rfl, r8, A8, c8, rfl, hN8⟩
    refine bodyPost_ret (v := .tuple #[.agg #[.bool _, .slice _ _ _], .agg #[.bool _, .slice _ _ _], .int .i64 0]) (by simp [results, Try.results154, go_sem, y0, y1, y2, y3]) rfl (dm_post (n1 := w2.heap.size) ((hZ5.below hb7).mono s3) (hZ7.mono (Nat.le_trans s3 s5)) HZ5.out HZ7.out (bl_trans B2 (bl_trans hbd (bl_trans hb5 hb7))) (by omega) (by omega) (by omega) (by omega))
theorem val_pos_neg {z : Zr} (h : 0 < z.val) : z.neg = false ∧ 0 < val z.ws := by
  unfold Zr.val at h
  cases hn : z.neg <;> rw [hn] at h <;> simp at h
  · exact ⟨rfl, h⟩
  · omega
set_option maxHeartbeats 2000000 in
/-- Cmp, of two positive integers -/
theorem hCmp_calls (va vb : Value) (x y : Zr) (w : World) (ha : IsZ w va x) (hb : IsZ w vb y) (h1 : 0 < x.val) (h2 : 0 < y.val) (hlen : x.ws.length + y.ws.length ≤ 137438953472) :
    Calls Try.prog 155 #[va, vb] w fun e w' => e = .returned (.int .i64 (hcmp (val x.ws) (val y.ws))) ∧ Below w.heap.size w w' := by
  have ha' := ha
  have hb' := hb
  obtain ⟨v1, rfl, hz⟩ := ha
  obtain ⟨v2, rfl, hy⟩ := hb
  have HL1 : Hid (x.ws.length ≤ 4398046511104) := Lib.hid (by omega)
  have HL2 : Hid (y.ws.length ≤ 4398046511104) := Lib.hid (by omega)
  have HM1 : Hid (x.ws.length ≤ 1099511627776) := Lib.hid (by omega)
  have HM2 : Hid (y.ws.length ≤ 1099511627776) := Lib.hid (by omega)
  have HDX : Hid ((dig (val x.ws)).length ≤ 35184372088832 ∧ (dig (val y.ws)).length ≤ 35184372088832) := Lib.hid (by have := dig_val_len hz.1; have := dig_val_len hy.1; omega)
  have S1 : Hid (x.val.sign = 1) := Lib.hid (Int.sign_eq_one_of_pos h1)
  have S2 : Hid (y.val.sign = 1) := Lib.hid (Int.sign_eq_one_of_pos h2)
  clear hlen h1 h2
  obtain ⟨c, hc⟩ : ∃ c, c = hcmp (val x.ws) (val y.ws) := ⟨_, rfl⟩
  have HC := Lib.hid hc
  rw [← hc]
  clear hc
  go_enter Try.func155, Try.ntmps155
  go_wp2
  generalize hw0 : World.alloc _ _ = w0
  have hb0 : Below w.heap.size w w0 := by subst hw0; exact bl_alloc2 (bl_alloc _ _) _
  have t1 : Box2 w w0 (fun _ => False) w.heap.size (.bool x.neg) v1 := Box2.mk (fun h => h) (by subst hw0; refine ⟨?_, ?_⟩ <;> go_simp)
  have t2 : Box2 w w0 (fun _ => False) (w.heap.size + 1) (.bool y.neg) v2 := Box2.mk (fun h => h) (by subst hw0; refine ⟨?_, ?_⟩ <;> go_simp)
  have f0 : Fr w w0 (fun _ => False) w0 := Fr.start hb0
  clear hw0
  go_region_held3 (fun W => Fr w w0 (fun _ => False) W) (first | assumption | exact f0.drew | exact Fr.call (by assumption) (by assumption)) (first
    | (go_at_call 157; (with_reducible refine (hSign_calls _ x _ (ha'.below (Fr.b (by assumption))) HM1.out).mono ?_); rintro e w1 ⟨rfl, hb1⟩; rw [S1.out]; have f1 := Fr.call (by assumption) hb1)
    | (go_at_call 157; (with_reducible refine (hSign_calls _ y _ (hb'.below (Fr.b (by assumption))) HM2.out).mono ?_); rintro e w2 ⟨rfl, hb2⟩; rw [S2.out]; have f2 := Fr.call (by assumption) hb2))
  clear f1 f0 hb1 hb2
  go_wp2
  go_region_held3 (fun W => Fr w w0 (fun _ => False) W) (first | assumption | exact Fr.drew (by assumption) | exact Fr.call (by assumption) (by assumption)) (first
    | (go_at_call 162; (with_reducible refine (hhalves_calls _ _ _ (hz.below (Fr.b (by assumption))) HL1.out).mono ?_); rintro e w3 ⟨vx, rfl, hh1, hb3⟩; have f3 := Fr.call (by assumption) hb3)
    | (go_at_call 162; (with_reducible refine (hhalves_calls _ _ _ (hy.below (Fr.b (by assumption))) HL2.out).mono ?_); rintro e w4 ⟨vy, rfl, hh2, hb4⟩; have f4 := Fr.call (by assumption) hb4)
    | (go_at_call 165; (with_reducible refine (hcmp_calls _ _ _ _ _ (hh1.is.below hb4) hh2.is HDX.out).mono ?_); rintro e w5 ⟨rfl, rfl⟩; rw [hval_dig, hval_dig, ← HC.out]))
  obtain ⟨u1, u2⟩ := t1 _ f4
  have hx4 := ha'.below f4.b
  clear f2 f3 hb3 hb4
  go_wp2_with (go_at_call 157; (with_reducible refine (hSign_calls _ x _ hx4 HM1.out).mono ?_); rintro e w6 ⟨rfl, hb6⟩; rw [S1.out])
  go_ret
  exact ⟨rfl, bl_trans f4.b hb6⟩
end Go.Proofs.Ytnmmgegnioihmaa
namespace Go.Proofs.Ytnmmgegnioihmaa
open Go.RowKit

set_option maxHeartbeats 1000000 in
theorem hone_calls (w : World) : Calls Try.prog 156 #[] w (PostZ w 1) := by
  have k0 : ∀ o, o = Obj.cells #[.bool false, .slice none 0 0] 41 → Two w.heap.size (w.alloc o) := fun o ho => by subst ho; exact Two.alloc _ _ _ rfl
  have K0 := Lib.hid k0
  clear k0
  go_enter Try.func156, Try.ntmps156
  go_wp2_with (go_at_call 105; refine (hFrom_calls 1 _ (by omega) (by omega)).mono ?_; rintro e w1 ⟨z, v, HZ, rfl, hN, hb1⟩; obtain ⟨v3, rfl, hr, A, c, rfl, hN⟩ := hN; obtain ⟨⟨x0, y0⟩, ⟨x1, y1⟩, g0, g1⟩ := ((K0.out _ rfl).below hb1).cells)
  refine bodyPost_ret (v := .agg #[.bool _, .slice _ _ _]) (by simp [results, Try.results156, go_sem, y0, y1]) rfl (postZ_put2 (n1 := w.heap.size + 1) ⟨_, rfl, hr, A, c, rfl, hN.mono (by simp)⟩ HZ.out (bl_trans (bl_alloc _ _) hb1) (Nat.le_refl _) (Nat.lt_succ_self _))
/-- the parts of a rational, as the reference has them -/
def Qr.nn (q : Qr) : Int := if q.d.val < 0 then -q.n.val else q.n.val
def Qr.dd (q : Qr) : Int := ((q.dv.natAbs : Nat) : Int)
theorem parts_ref {q : Qr} (h1 : Rng q.n.ws) (h2 : Rng q.d.ws) : Parts q ⟨canZ q.nn, canZ q.dd⟩ := by
  have n1 : q.nn.natAbs < 4294967296 ^ q.n.ws.length := by
    unfold Qr.nn
    split
    · rw [Int.natAbs_neg]; exact Zr.val_lt h1
    · exact Zr.val_lt h1
  have l1 : (canZ q.nn).ws.length ≤ q.S := Nat.le_trans (canZ_len (k := q.n.ws.length) n1) (by unfold Qr.S; omega)
  have l2 : (canZ q.dd).ws.length ≤ q.S := by
    by_cases h0 : q.d.val = 0
    · exact Nat.le_trans (canZ_len (k := 1) (by unfold Qr.dd Qr.dv; rw [if_pos h0]; decide)) (by unfold Qr.S; omega)
    · exact Nat.le_trans (canZ_len (k := q.d.ws.length) (by unfold Qr.dd; rw [Qr.dv_eq h0]; simpa using Zr.val_lt h2)) (by unfold Qr.S; omega)
  have hpos : 0 < q.dd := by have := q.dv_ne; unfold Qr.dd; omega
  refine ⟨?_, by show 0 < (canZ q.dd).val; rw [canZ_val]; exact hpos, l1, l2⟩
  dsimp only
  rw [canZ_val, canZ_val]
  by_cases h : q.d.val < 0
  · right
    have e : q.dv = q.d.val := Qr.dv_eq (by omega)
    unfold Qr.nn Qr.dd
    rw [if_pos h, e]
    omega
  · left
    unfold Qr.nn Qr.dd
    rw [if_neg h]
    unfold Qr.dv
    split <;> omega
set_option maxHeartbeats 1000000 in
theorem hden_calls (va : Value) (q : Qr) (w : World) (ha : IsQ w va q) (hlen : q.S ≤ 1099511627776) : Calls Try.prog 134 #[va] w (PostZ w q.dd) := by
  obtain ⟨v1, v2, rfl, hn, hd⟩ := ha
  have hzd : IsZ w (.agg #[.bool q.d.neg, v2]) q.d := ⟨v2, rfl, hd⟩
  have hld : q.d.ws.length ≤ 1099511627776 := by unfold Qr.S at hlen; omega
  have HLd := Lib.hid hld
  obtain ⟨rd, Ad, cd, rfl, hrd⟩ := hd
  obtain ⟨rn, An, cn, rfl, hrn⟩ := hn
  obtain ⟨sg, hsg⟩ : ∃ sg, sg = q.d.val.sign := ⟨_, rfl⟩
  have HSG := Lib.hid hsg
  by_cases h0 : q.d.val = 0
  · have e0 : sg = 0 := by rw [hsg, h0]; rfl
    subst e0
    have HD : Hid (q.dd = 1) := Lib.hid (by unfold Qr.dd Qr.dv; rw [if_pos h0]; rfl)
    rw [HD.out]
    clear hlen hld h0 hsg
    go_enter Try.func134, Try.ntmps134
    go_wp2_with (first
      | (go_at_call 157; generalize hw0 : World.alloc _ _ = w0
         have hb0 : Below w.heap.size w w0 := by subst hw0; exact bl_alloc2 (bl_alloc _ _) _
         have k0 : Two (w.heap.size + 1) w0 := by subst hw0; exact Two.alloc _ _ _ (by simp)
         have z0 : w0.heap.size = w.heap.size + 2 := by subst hw0; simp
         clear hw0
         refine (hSign_calls _ _ w0 (hzd.below hb0) HLd.out).mono ?_; rintro e w1 ⟨rfl, hb1⟩; rw [← HSG.out])
      | (go_at_call 156; refine (hone_calls _).mono ?_; rintro e w2 ⟨z, v, HZ, rfl, hN, hb2⟩; obtain ⟨v3, rfl, hr, A, c, rfl, hN⟩ := hN; obtain ⟨⟨x0, y0⟩, ⟨x1, y1⟩, g0, g1⟩ := (k0.below (bl_trans hb1 hb2)).cells))
    have s1 := hb1.size
    refine bodyPost_ret (v := .agg #[.bool _, .slice _ _ _]) (by simp [results, Try.results134, go_sem, y0, y1]) rfl (postZ_put2 (n1 := w1.heap.size) ⟨_, rfl, hr, A, c, rfl, hN⟩ HZ.out (bl_trans hb0 (bl_trans hb1 hb2)) (by omega) (by omega))
  · have e0 : (sg == 0) = false := by rw [beq_eq_false_iff_ne, hsg, Ne, Int.sign_eq_zero_iff_zero]; exact h0
    have HD : Hid (q.dd = ((q.d.val.natAbs : Nat) : Int)) := Lib.hid (by unfold Qr.dd; rw [Qr.dv_eq h0])
    rw [HD.out]
    clear hlen hld h0 hsg
    go_enter Try.func134, Try.ntmps134
    go_wp2_with (first
      | (go_at_call 157; generalize hw0 : World.alloc _ _ = w0
         have hb0 : Below w.heap.size w w0 := by subst hw0; exact bl_alloc2 (bl_alloc _ _) _
         have t1 : Box4 w w0 (· = w.heap.size + 1) w.heap.size (.bool q.n.neg) (.slice An q.n.ws.length cn) (.bool q.d.neg) (.slice Ad q.d.ws.length cd) := Box4.mk (by omega) (by subst hw0; refine ⟨?_, ?_, ?_, ?_⟩ <;> go_simp)
         have k0 : Two (w.heap.size + 1) w0 := by subst hw0; exact Two.alloc _ _ _ (by simp)
         have z0 : w0.heap.size = w.heap.size + 2 := by subst hw0; simp
         have f0 : Fr w w0 (· = w.heap.size + 1) w0 := Fr.start hb0
         clear hw0
         refine (hSign_calls _ _ w0 (hzd.below hb0) HLd.out).mono ?_; rintro e w1 ⟨rfl, hb1⟩; rw [← HSG.out]; obtain ⟨u0, u1, u2, u3⟩ := t1 _ (f0.call hb1))
      | (go_at_call 158; refine (hAbs_calls _ q.d _ (hzd.below (bl_trans hb0 hb1)) HLd.out).mono ?_; rintro e w2 ⟨z, v, HZ, rfl, hN, hb2⟩; obtain ⟨v3, rfl, hr, A, c, rfl, hN⟩ := hN; obtain ⟨⟨x0, y0⟩, ⟨x1, y1⟩, g0, g1⟩ := (k0.below (bl_trans hb1 hb2)).cells))
    have s1 := hb1.size
    refine bodyPost_ret (v := .agg #[.bool _, .slice _ _ _]) (by simp [results, Try.results134, go_sem, y0, y1]) rfl (postZ_put2 (n1 := w1.heap.size) ⟨_, rfl, hr, A, c, rfl, hN⟩ HZ.out (bl_trans hb0 (bl_trans hb1 hb2)) (by omega) (by omega))
set_option maxHeartbeats 1000000 in
theorem hnum_calls (va : Value) (q : Qr) (w : World) (ha : IsQ w va q) (hlen : q.S ≤ 1099511627776) : Calls Try.prog 133 #[va] w (PostZ w q.nn) := by
  obtain ⟨v1, v2, rfl, hn, hd⟩ := ha
  have hzd : IsZ w (.agg #[.bool q.d.neg, v2]) q.d := ⟨v2, rfl, hd⟩
  have hzn : IsZ w (.agg #[.bool q.n.neg, v1]) q.n := ⟨v1, rfl, hn⟩
  have hld : q.d.ws.length ≤ 1099511627776 := by unfold Qr.S at hlen; omega
  have hln : q.n.ws.length ≤ 1099511627776 := by unfold Qr.S at hlen; omega
  have HLd := Lib.hid hld
  have HLn := Lib.hid hln
  obtain ⟨rd, Ad, cd, rfl, hrd⟩ := hd
  obtain ⟨rn, An, cn, rfl, hrn⟩ := hn
  obtain ⟨sg, hsg⟩ : ∃ sg, sg = q.d.val.sign := ⟨_, rfl⟩
  have HSG := Lib.hid hsg
  by_cases h0 : q.d.val < 0
  · have e0 : sg = -1 := by rw [hsg, Int.sign_eq_neg_one_of_neg h0]
    subst e0
    have HD : Hid (q.nn = -q.n.val) := Lib.hid (by unfold Qr.nn; rw [if_pos h0])
    rw [HD.out]
    clear hlen hld h0 hsg hln
    go_enter Try.func133, Try.ntmps133
    go_wp2_with (first
      | (go_at_call 157; generalize hw0 : World.alloc _ _ = w0
         have hb0 : Below w.heap.size w w0 := by subst hw0; exact bl_alloc2 (bl_alloc _ _) _
         have t1 : Box4 w w0 (· = w.heap.size + 1) w.heap.size (.bool q.n.neg) (.slice An q.n.ws.length cn) (.bool q.d.neg) (.slice Ad q.d.ws.length cd) := Box4.mk (by omega) (by subst hw0; refine ⟨?_, ?_, ?_, ?_⟩ <;> go_simp)
         have k0 : Two (w.heap.size + 1) w0 := by subst hw0; exact Two.alloc _ _ _ (by simp)
         have z0 : w0.heap.size = w.heap.size + 2 := by subst hw0; simp
         have f0 : Fr w w0 (· = w.heap.size + 1) w0 := Fr.start hb0
         clear hw0
         refine (hSign_calls _ _ w0 (hzd.below hb0) HLd.out).mono ?_; rintro e w1 ⟨rfl, hb1⟩; rw [← HSG.out]; obtain ⟨u0, u1, u2, u3⟩ := t1 _ (f0.call hb1))
      | (go_at_call 141; refine (hNeg_calls _ q.n _ (hzn.below (bl_trans hb0 hb1)) HLn.out).mono ?_; rintro e w2 ⟨z, v, HZ, rfl, hN, hb2⟩; obtain ⟨v3, rfl, hr, A, c, rfl, hN⟩ := hN; obtain ⟨⟨x0, y0⟩, ⟨x1, y1⟩, g0, g1⟩ := (k0.below (bl_trans hb1 hb2)).cells))
    have s1 := hb1.size
    refine bodyPost_ret (v := .agg #[.bool _, .slice _ _ _]) (by simp [results, Try.results133, go_sem, y0, y1]) rfl (postZ_put2 (n1 := w1.heap.size) ⟨_, rfl, hr, A, c, rfl, hN⟩ HZ.out (bl_trans hb0 (bl_trans hb1 hb2)) (by omega) (by omega))
  · have e0 : 0 ≤ sg := by rw [hsg]; exact Int.sign_nonneg_iff.2 (by omega)
    have HD : Hid (q.nn = q.n.val) := Lib.hid (by unfold Qr.nn; rw [if_neg h0])
    rw [HD.out]
    clear hlen hld h0 hsg hln
    go_enter Try.func133, Try.ntmps133
    go_wp2_with (first
      | (go_at_call 157; generalize hw0 : World.alloc _ _ = w0
         have hb0 : Below w.heap.size w w0 := by subst hw0; exact bl_alloc2 (bl_alloc _ _) _
         have t1 : Box4 w w0 (· = w.heap.size + 1) w.heap.size (.bool q.n.neg) (.slice An q.n.ws.length cn) (.bool q.d.neg) (.slice Ad q.d.ws.length cd) := Box4.mk (by omega) (by subst hw0; refine ⟨?_, ?_, ?_, ?_⟩ <;> go_simp)
         have k0 : Two (w.heap.size + 1) w0 := by subst hw0; exact Two.alloc _ _ _ (by simp)
         have z0 : w0.heap.size = w.heap.size + 2 := by subst hw0; simp
         have f0 : Fr w w0 (· = w.heap.size + 1) w0 := Fr.start hb0
         clear hw0
         refine (hSign_calls _ _ w0 (hzd.below hb0) HLd.out).mono ?_; rintro e w1 ⟨rfl, hb1⟩; rw [← HSG.out]; obtain ⟨u0, u1, u2, u3⟩ := t1 _ (f0.call hb1))
      | (go_at_call 136; refine (hLeast_calls _ q.n _ (hzn.below (bl_trans hb0 hb1)) HLn.out).mono ?_; rintro e w2 ⟨z, v, HZ, rfl, hN, hb2⟩; obtain ⟨v3, rfl, hr, A, c, rfl, hN⟩ := hN; obtain ⟨⟨x0, y0⟩, ⟨x1, y1⟩, g0, g1⟩ := (k0.below (bl_trans hb1 hb2)).cells))
    have s1 := hb1.size
    refine bodyPost_ret (v := .agg #[.bool _, .slice _ _ _]) (by simp [results, Try.results133, go_sem, y0, y1]) rfl (postZ_put2 (n1 := w1.heap.size) ⟨_, rfl, hr, A, c, rfl, hN⟩ HZ.out (bl_trans hb0 (bl_trans hb1 hb2)) (by omega) (by omega))
end Go.Proofs.Ytnmmgegnioihmaa
namespace Go.Proofs.Ytnmmgegnioihmaa
open Go.RowKit

theorem canZ_nat (n : Nat) : canZ (n : Int) = ⟨false, wordsOf n⟩ := by
  unfold canZ
  rw [decide_eq_false (by omega)]
  rfl
theorem hcmp_one (n : Nat) : hcmp n 1 = 0 ↔ n = 1 := by
  rcases Nat.lt_trichotomy n 1 with h | h | h
  · rw [hcmp_lt h]; omega
  · rw [hcmp_eq h]; omega
  · rw [hcmp_gt h]; omega
theorem exact_div {z : Zr} {G : Nat} (h : (G : Int) ∣ z.val) : val z.ws % G = 0 := by
  have h1 : G ∣ z.val.natAbs := by have := Int.natAbs_dvd_natAbs.2 h; simpa using this
  rw [Zr.natAbs] at h1
  exact Nat.mod_eq_zero_of_dvd h1
set_option maxHeartbeats 4000000 in
theorem hover_calls (va vb : Value) (zn zd : Zr) (x : Rat) (B : Nat) (w : World) (ha : IsZ w va zn) (hb : IsZ w vb zd) (hd : 0 < zd.val) (hx : Rat.divInt zn.val zd.val = x) (hB : (canQ x).S ≤ B) (hlen : zn.ws.length + zd.ws.length ≤ 34359738368) :
    Calls Try.prog 132 #[va, vb] w (PostQ w x B) := by
  have hzn := ha
  have hzd := hb
  obtain ⟨v1, rfl, rn, An, cn, rfl, hrn⟩ := ha
  obtain ⟨v2, rfl, rd, Ad, cd, rfl, hrd⟩ := hb
  have hgl := gcd_len (a := zn.val) hd (Zr.val_lt rd)
  have hnum := least_num (a := zn.val) hd
  have hden := least_den (a := zn.val) hd
  rw [hx] at hnum hden
  have hg0 := gcd_ne (a := zn.val) hd
  have hdv1 : ((Int.gcd zn.val zd.val : Nat) : Int) ∣ zn.val := Int.gcd_dvd_left ..
  have hdv2 : ((Int.gcd zn.val zd.val : Nat) : Int) ∣ zd.val := Int.gcd_dvd_right ..
  obtain ⟨G, hG⟩ : ∃ G : Nat, G = Int.gcd zn.val zd.val := ⟨_, rfl⟩
  rw [← hG] at hnum hden hg0 hdv1 hdv2 hgl
  rw [canZ_nat] at hgl
  have hL1 : zn.ws.length + zd.ws.length ≤ 137438953472 := by omega
  have hGp : 0 < val (wordsOf G) := by rw [val_wordsOf]; omega
  have hDN : ∀ W ua ub, IsZ W ua zn → IsZ W ub ⟨false, wordsOf G⟩ → Calls Try.prog 154 #[ua, ub] W (PostDM W x.num 0) := fun W ua ub h1 h2 => by
    have := hDiv_calls ua ub zn.neg zn.ws (wordsOf G) W h1 h2 hGp (by rw [val_wordsOf]; exact exact_div hdv1) (by dsimp only at hgl; omega)
    rw [val_wordsOf] at this
    rw [hnum]; exact this
  have hDD : ∀ W ua ub, IsZ W ua zd → IsZ W ub ⟨false, wordsOf G⟩ → Calls Try.prog 154 #[ua, ub] W (PostDM W (x.den : Int) 0) := fun W ua ub h1 h2 => by
    have := hDiv_calls ua ub zd.neg zd.ws (wordsOf G) W h1 h2 hGp (by rw [val_wordsOf]; exact exact_div hdv2) (by dsimp only at hgl; omega)
    rw [val_wordsOf] at this
    rw [hden]; exact this
  have hLD : (canZ (x.den : Int)).ws.length ≤ zd.ws.length := by
    rw [hden]
    exact canZ_len (Nat.lt_of_le_of_lt (Int.natAbs_ediv_le_natAbs _ _) (Zr.val_lt rd))
  have HL1 := Lib.hid hL1
  have HG := Lib.hid hG
  have HB := Lib.hid hB
  have HDN := Lib.hid hDN
  have HDD := Lib.hid hDD
  have HLD : Hid ((canZ (x.den : Int)).ws.length + 1 ≤ 137438953472) := Lib.hid (by omega)
  clear hlen hL1 hG hnum hden hB hgl hx hdv1 hdv2 hDN hDD hLD hGp hg0
  go_enter Try.func132, Try.ntmps132
  go_wp2_with (first
    | (go_at_call 153; generalize hw0 : World.alloc _ _ = w0
       have hb0 : Below w.heap.size w w0 := by subst hw0; exact bl_alloc2 (bl_alloc2 (bl_alloc _ _) _) _
       have t0 : w0.cell? ⟨w.heap.size, 0, none⟩ = some (.bool zn.neg) ∧ w0.cell? ⟨w.heap.size, 1, none⟩ = some (.slice An zn.ws.length cn) ∧ w0.cell? ⟨w.heap.size + 1, 0, none⟩ = some (.bool zd.neg) ∧ w0.cell? ⟨w.heap.size + 1, 1, none⟩ = some (.slice Ad zd.ws.length cd) := by subst hw0; refine ⟨?_, ?_, ?_, ?_⟩ <;> go_simp
       have k0 : Four (w.heap.size + 2) w0 := by subst hw0; exact Four.alloc _ _ _ _ _ (by simp)
       have z0 : w0.heap.size = w.heap.size + 3 := by subst hw0; simp
       clear hw0
       refine (hGcd_calls _ _ zn zd _ (hzn.below hb0) (hzd.below hb0) HL1.out).mono ?_; rw [← HG.out]; rintro e w1 ⟨zg, xg, HZG, rfl, hZg, hb1⟩
       obtain ⟨u0, u1, u2, u3⟩ := t0
       replace u0 := bl_cell hb1 u0; replace u1 := bl_cell hb1 u1; replace u2 := bl_cell hb1 u2; replace u3 := bl_cell hb1 u3
       replace hZg := hZg.is; rw [HZG.out, canZ_nat] at hZg; obtain ⟨xg2, rfl, hrg, Ag, cg, rfl, hNg⟩ := hZg
       have q0 := fun o => bl_cell (bl_alloc w1 o) u0; have q1 := fun o => bl_cell (bl_alloc w1 o) u1; have q2 := fun o => bl_cell (bl_alloc w1 o) u2; have q3 := fun o => bl_cell (bl_alloc w1 o) u3
       have z1 := hb1.size)
    | (go_at_call 154; generalize hw4 : World.alloc _ _ = w4
       have hb4 : Below w3.heap.size w3 w4 := by subst hw4; exact bl_alloc2 (bl_alloc _ _) _
       have r0 : w4.cell? ⟨w3.heap.size, 0, none⟩ = some (.bool zq.neg) ∧ w4.cell? ⟨w3.heap.size, 1, none⟩ = some (.slice Aq zq.ws.length cq) := by subst hw4; refine ⟨?_, ?_⟩ <;> go_simp
       clear hw4 p0 p1 p2 p3 p4 p5
       obtain ⟨r0, r1⟩ := r0
       have hby : Below w.heap.size w w4 := bl_trans hbz (bl_trans hb3 hb4)
       refine (HDD.out _ _ _ (hzd.below hby) (hGz.below (bl_trans hb3 hb4))).mono ?_; rintro e w5 ⟨zd', ze, xd, xe, HZD, HZE, rfl, hZd, hZe, hb5⟩
       have z4 := hb4.size
       have z5 := hb5.size
       replace r0 := bl_cell hb5 r0; replace r1 := bl_cell hb5 r1
       obtain ⟨xd2, rfl, hrdd, Ad2, cd2, rfl, hNd⟩ := hZd; obtain ⟨xe2, rfl, hre, Ae, ce, rfl, hNe⟩ := hZe)
    | (go_at_call 154; generalize hw2 : World.alloc _ _ = w2
       have hb2 : Below w1.heap.size w1 w2 := by subst hw2; exact bl_alloc _ _
       have e0 : w2.cell? ⟨w1.heap.size, 0, none⟩ = some (.bool false) ∧ w2.cell? ⟨w1.heap.size, 1, none⟩ = some (.slice Ag (wordsOf G).length cg) := by subst hw2; refine ⟨?_, ?_⟩ <;> go_simp
       clear hw2 q0 q1 q2 q3
       obtain ⟨e0, e1⟩ := e0
       have hbz : Below w.heap.size w w2 := bl_trans hb0 (bl_trans hb1 hb2)
       have hGz : IsZ w2 (.agg #[.bool false, .slice Ag (wordsOf G).length cg]) ⟨false, wordsOf G⟩ := ⟨_, rfl, hrg, Ag, cg, rfl, hNg.below hb2⟩
       refine (HDN.out _ _ _ (hzn.below hbz) hGz).mono ?_; rintro e w3 ⟨zq, zr, xq, xr, HZQ, HZR, rfl, hZq, hZr, hb3⟩
       have z2 := hb2.size
       have z3 := hb3.size
       replace u0 := bl_cell (bl_trans hb2 hb3) u0; replace u1 := bl_cell (bl_trans hb2 hb3) u1; replace u2 := bl_cell (bl_trans hb2 hb3) u2; replace u3 := bl_cell (bl_trans hb2 hb3) u3
       replace e0 := bl_cell hb3 e0; replace e1 := bl_cell hb3 e1
       obtain ⟨xq2, rfl, hrq, Aq, cq, rfl, hNq⟩ := hZq; obtain ⟨xr2, rfl, hrr, Ar, cr, rfl, hNr⟩ := hZr
       have p0 := fun o o' => bl_cell (bl_alloc2 (bl_alloc w3 o) o') u0; have p1 := fun o o' => bl_cell (bl_alloc2 (bl_alloc w3 o) o') u1; have p2 := fun o o' => bl_cell (bl_alloc2 (bl_alloc w3 o) o') u2; have p3 := fun o o' => bl_cell (bl_alloc2 (bl_alloc w3 o) o') u3; have p4 := fun o o' => bl_cell (bl_alloc2 (bl_alloc w3 o) o') e0; have p5 := fun o o' => bl_cell (bl_alloc2 (bl_alloc w3 o) o') e1))
  generalize hw6 : World.alloc _ _ = w6
  have hb6 : Below w5.heap.size w5 w6 := by subst hw6; exact bl_alloc2 (bl_alloc _ _) _
  have s0 : w6.cell? ⟨w5.heap.size, 0, none⟩ = some (.bool zd'.neg) ∧ w6.cell? ⟨w5.heap.size, 1, none⟩ = some (.slice Ad2 zd'.ws.length cd2) := by subst hw6; refine ⟨?_, ?_⟩ <;> go_simp
  clear hw6
  have z6 := hb6.size
  have hbx : Below w.heap.size w w6 := bl_trans hby (bl_trans hb5 hb6)
  have t7 : Box2 w w6 (fun _ => False) w5.heap.size (.bool zd'.neg) (.slice Ad2 zd'.ws.length cd2) := Box2.mk (fun h => h) s0
  have t4 : Box2 w w6 (fun _ => False) w3.heap.size (.bool zq.neg) (.slice Aq zq.ws.length cq) := Box2.mk (fun h => h) ⟨bl_cell hb6 r0, bl_cell hb6 r1⟩
  have f6 : Fr w w6 (fun _ => False) w6 := Fr.start hbx
  have hdz : IsZ w6 (.agg #[.bool zd'.neg, .slice Ad2 zd'.ws.length cd2]) zd' := ⟨_, rfl, hrdd, Ad2, cd2, rfl, (hNd.below hb6).toRow⟩
  have k6 : Four (w.heap.size + 2) w6 := ((k0.below hb1).below (bl_trans hb2 (bl_trans hb3 hb4))).below (bl_trans hb5 hb6)
  clear r0 r1 s0
  have hcmp' : ∀ W vz (z1 : Zr), z1 = canZ 1 → IsZ W (.agg #[.bool zd'.neg, .slice Ad2 zd'.ws.length cd2]) zd' → IsZ W vz z1 → Calls Try.prog 155 #[.agg #[.bool zd'.neg, .slice Ad2 zd'.ws.length cd2], vz] W fun e w' => e = .returned (.int .i64 (hcmp x.den 1)) ∧ Below W.heap.size W w' := fun W vz z1 e h1 h2 => by
    subst e
    have hpd := x.den_pos
    have := hCmp_calls _ _ zd' (canZ 1) W h1 h2 (by rw [HZD.out, canZ_val]; omega) (by rw [canZ_val]; omega) (by rw [HZD.out]; exact Nat.le_trans (Nat.add_le_add_left (canZ_len (k := 1) (by decide)) _) HLD.out)
    have e1 : val zd'.ws = x.den := by rw [HZD.out, canZ_nat]; exact val_wordsOf _
    have e2 : val (canZ 1).ws = 1 := by rw [show (1 : Int) = ((1 : Nat) : Int) from rfl, canZ_nat]; exact val_wordsOf _
    rwa [e1, e2] at this
  have hds := hcmp_one x.den
  obtain ⟨sg, hsg⟩ : ∃ sg, sg = hcmp x.den 1 := ⟨_, rfl⟩
  rw [← hsg] at hcmp' hds
  have HCMP := Lib.hid hcmp'
  clear hsg hcmp'
  by_cases h0 : sg = 0
  · subst h0
    have hq : canQ x = ⟨zq, ⟨false, []⟩⟩ := by
      unfold canQ
      rw [if_pos (hds.1 rfl), HZQ.out]
    have HQ := Lib.hid hq
    clear hds hq
    go_region_held3 (fun W => Fr w w6 (fun _ => False) W) (first | assumption | exact Fr.drew (by assumption) | exact Fr.call (by assumption) (by assumption)) (first
      | (go_at_call 156; (with_reducible refine (hone_calls _).mono ?_); rintro e w7 ⟨z1, x1, HZ1, rfl, hZ1, hb7⟩; have f7 := Fr.call (by assumption) hb7)
      | (go_at_call 155; (with_reducible refine (HCMP.out _ _ z1 HZ1.out (hdz.below (f7.all hbx)) hZ1.is).mono ?_); rintro e w8 ⟨rfl, hb8⟩; have f8 := f7.call hb8; obtain ⟨⟨x0, y0⟩, ⟨x1, y1⟩, ⟨x2, y2⟩, ⟨x3, y3⟩, g0, g1, g2, g3⟩ := (k6.below (f8.all hbx)).cells; obtain ⟨u4, u5⟩ := t4 _ f8; obtain ⟨u7, u8⟩ := t7 _ f8))
    go_wp2
    have hqw := (((hNq.below hb4).below hb5).below hb6).below (f8.all hbx)
    have hQ : NQ w2.heap.size w8 (.agg #[.bool zq.neg, .slice Aq zq.ws.length cq, .bool false, .slice none 0 0]) ⟨zq, ⟨false, []⟩⟩ := ⟨_, _, rfl, ⟨hrq, Aq, cq, rfl, hqw⟩, ⟨Rng.nil, none, 0, rfl, NRow.nil _ _ _⟩⟩
    exact bodyPost_ret (v := .agg #[.bool _, .slice _ _ _, .bool _, .slice _ _ _]) (by simp [results, Try.results132, go_sem, y0, y1, y2, y3]) rfl (postQ_put4 hQ HQ.out.symm (by rw [← HQ.out]; exact HB.out) f8.b (by omega) (by omega))
  · have h1 : (sg == 0) = false := by simpa using h0
    have hq : canQ x = ⟨zq, zd'⟩ := by
      unfold canQ
      rw [if_neg (fun h => h0 (hds.2 h)), HZQ.out, HZD.out]
    have HQ := Lib.hid hq
    clear hds hq
    go_region_held3 (fun W => Fr w w6 (fun _ => False) W) (first | assumption | exact Fr.drew (by assumption) | exact Fr.call (by assumption) (by assumption)) (first
      | (go_at_call 156; (with_reducible refine (hone_calls _).mono ?_); rintro e w7 ⟨z1, x1, HZ1, rfl, hZ1, hb7⟩; have f7 := Fr.call (by assumption) hb7)
      | (go_at_call 155; (with_reducible refine (HCMP.out _ _ z1 HZ1.out (hdz.below (f7.all hbx)) hZ1.is).mono ?_); rintro e w8 ⟨rfl, hb8⟩; have f8 := f7.call hb8; obtain ⟨⟨x0, y0⟩, ⟨x1, y1⟩, ⟨x2, y2⟩, ⟨x3, y3⟩, g0, g1, g2, g3⟩ := (k6.below (f8.all hbx)).cells; obtain ⟨u4, u5⟩ := t4 _ f8; obtain ⟨u7, u8⟩ := t7 _ f8))
    go_wp2
    have hqw := (((hNq.below hb4).below hb5).below hb6).below (f8.all hbx)
    have hdw := (hNd.below hb6).below (f8.all hbx)
    have hQ : NQ w2.heap.size w8 (.agg #[.bool zq.neg, .slice Aq zq.ws.length cq, .bool zd'.neg, .slice Ad2 zd'.ws.length cd2]) ⟨zq, zd'⟩ := ⟨_, _, rfl, ⟨hrq, Aq, cq, rfl, hqw⟩, ⟨hrdd, Ad2, cd2, rfl, hdw.mono (by omega)⟩⟩
    exact bodyPost_ret (v := .agg #[.bool _, .slice _ _ _, .bool _, .slice _ _ _]) (by simp [results, Try.results132, go_sem, y0, y1, y2, y3]) rfl (postQ_put4 hQ HQ.out.symm (by rw [← HQ.out]; exact HB.out) f8.b (by omega) (by omega))
end Go.Proofs.Ytnmmgegnioihmaa
namespace Go.Proofs.Ytnmmgegnioihmaa
open Go.RowKit

theorem Parts.ref {q : Qr} {w : World} {v : Value} (h : IsQ w v q) : Parts q ⟨canZ q.nn, canZ q.dd⟩ := by
  obtain ⟨_, _, _, h1, h2⟩ := h
  exact parts_ref h1.1 h2.1
theorem IsQ.ok {q : Qr} {w : World} {v : Value} (h : IsQ w v q) : q.Ok := by obtain ⟨_, _, _, h1, h2⟩ := h; exact ⟨h1.1, h2.1⟩
set_option maxHeartbeats 2000000 in
theorem hLeastQ_calls (va : Value) (a : Qr) (w : World) (ha : IsQ w va a) (hlen : a.S ≤ 4294967296) : Calls Try.prog 98 #[va] w (PostQ w a.val (a.S + 1)) := by
  have hA := ha
  have hp := Parts.ref ha
  have hc := can_ok hp ha.ok
  obtain ⟨A1, c1, A2, c2, rfl⟩ := ha.slices
  have HL : Hid (a.S ≤ 1099511627776) := Lib.hid (by omega)
  have HP := Lib.hid hp
  have HC := Lib.hid hc
  have HLO : Hid ((canZ a.nn).ws.length + (canZ a.dd).ws.length ≤ 34359738368) := Lib.hid (by have := hp.ln; have := hp.ld; dsimp only at *; omega)
  clear ha hlen hp hc
  go_enter Try.func98, Try.ntmps98
  go_wp2
  generalize hw0 : World.alloc _ _ = w0
  have hb0 : Below w.heap.size w w0 := by subst hw0; exact bl_alloc2 (bl_alloc _ _) _
  have t1 : Box4 w w0 (· = w.heap.size + 1) w.heap.size (.bool a.n.neg) (.slice A1 a.n.ws.length c1) (.bool a.d.neg) (.slice A2 a.d.ws.length c2) := Box4.mk (by omega) (by subst hw0; refine ⟨?_, ?_, ?_, ?_⟩ <;> go_simp)
  have k0 : Four (w.heap.size + 1) w0 := by subst hw0; exact Four.alloc _ _ _ _ _ (by simp)
  have f0 : Fr w w0 (· = w.heap.size + 1) w0 := Fr.start hb0
  have z0 : w0.heap.size = w.heap.size + 2 := by subst hw0; simp
  clear hw0
  go_region_held3 (fun W => Fr w w0 (· = w.heap.size + 1) W) (first | assumption | exact f0.drew | exact Fr.call (by assumption) (by assumption) | exact Fr.put4 f3 (by rfl) (by omega) _ _ _ _) (first
    | (go_at_call 133; (with_reducible refine (hnum_calls _ a _ (hA.below (Fr.b (by assumption))) HL.out).mono ?_); rintro e w1 ⟨z1, x1, HZ1, rfl, hZ1, hb1⟩; have f1 := Fr.call (by assumption) hb1)
    | (go_at_call 134; (with_reducible refine (hden_calls _ a _ (hA.below (Fr.b (by assumption))) HL.out).mono ?_); rintro e w2 ⟨z2, x2, HZ2, rfl, hZ2, hb2⟩; have f2 := Fr.call (by assumption) hb2)
    | (go_at_call 132; (with_reducible refine (hover_calls _ _ z1 z2 a.val (a.S + 1) _ (hZ1.is.below hb2) hZ2.is (by rw [HZ2.out]; exact HP.out.pos) (by rw [HZ1.out, HZ2.out]; exact HP.out.val) HC.out (by rw [HZ1.out, HZ2.out]; exact HLO.out)).mono ?_); rintro e w3 ⟨q, x3, HQ, hS, rfl, hN, hb3⟩; have f3 := Fr.call (by assumption) hb3; obtain ⟨v5, v6, rfl, ⟨r5, A5, c5, rfl, h5⟩, ⟨r6, A6, c6, rfl, h6⟩⟩ := hN; obtain ⟨⟨x0, y0⟩, ⟨x1, y1⟩, ⟨x2, y2⟩, ⟨x3, y3⟩, g0, g1, g2, g3⟩ := (Fr.four f3 k0).cells))
  go_wp2
  have s2 := f2.size
  have hQ : NQ w2.heap.size w3 (.agg #[.bool q.n.neg, .slice A5 q.n.ws.length c5, .bool q.d.neg, .slice A6 q.d.ws.length c6]) q := ⟨_, _, rfl, ⟨r5, A5, c5, rfl, h5⟩, ⟨r6, A6, c6, rfl, h6⟩⟩
  exact bodyPost_ret (v := .agg #[.bool _, .slice _ _ _, .bool _, .slice _ _ _]) (by simp [results, Try.results98, go_sem, y0, y1, y2, y3]) rfl (postQ_put4 hQ HQ.out hS f3.b (by omega) (by omega))
set_option maxHeartbeats 1000000 in
/-- two representations that are alike -/
theorem hIs_calls (va vb : Value) (q : Qr) (w : World) (ha : IsQ w va q) (hb : IsQ w vb q) (hlen : q.S ≤ 4398046511104) :
    Calls Try.prog 58 #[va, vb] w fun e w' => e = .returned (.bool true) ∧ Below w.heap.size w w' := by
  obtain ⟨v1, v2, rfl, hn1, hd1⟩ := ha
  obtain ⟨v3, v4, rfl, hn2, hd2⟩ := hb
  have zn1 : IsZ w (.agg #[.bool q.n.neg, v1]) q.n := ⟨_, rfl, hn1⟩
  have zn2 : IsZ w (.agg #[.bool q.n.neg, v3]) q.n := ⟨_, rfl, hn2⟩
  have zd1 : IsZ w (.agg #[.bool q.d.neg, v2]) q.d := ⟨_, rfl, hd1⟩
  have zd2 : IsZ w (.agg #[.bool q.d.neg, v4]) q.d := ⟨_, rfl, hd2⟩
  have HLn : Hid (q.n.ws.length ≤ 4398046511104) := Lib.hid (by unfold Qr.S at hlen; omega)
  have HLd : Hid (q.d.ws.length ≤ 4398046511104) := Lib.hid (by unfold Qr.S at hlen; omega)
  clear hlen
  obtain ⟨_, A1, c1, rfl, _⟩ := hn1
  obtain ⟨_, A2, c2, rfl, _⟩ := hd1
  obtain ⟨_, A3, c3, rfl, _⟩ := hn2
  obtain ⟨_, A4, c4, rfl, _⟩ := hd2
  go_enter Try.func58, Try.ntmps58
  go_wp2_with (first
    | (go_at_call 104; generalize hw0 : World.alloc _ _ = w0
       have hb0 : Below w.heap.size w w0 := by subst hw0; exact bl_alloc2 (bl_alloc _ _) _
       have t1 : Box4 w w0 (fun _ => False) w.heap.size (.bool q.n.neg) (.slice A1 q.n.ws.length c1) (.bool q.d.neg) (.slice A2 q.d.ws.length c2) := Box4.mk (fun h => h) (by subst hw0; refine ⟨?_, ?_, ?_, ?_⟩ <;> go_simp)
       have t2 : Box4 w w0 (fun _ => False) (w.heap.size + 1) (.bool q.n.neg) (.slice A3 q.n.ws.length c3) (.bool q.d.neg) (.slice A4 q.d.ws.length c4) := Box4.mk (fun h => h) (by subst hw0; refine ⟨?_, ?_, ?_, ?_⟩ <;> go_simp)
       have f0 : Fr w w0 (fun _ => False) w0 := Fr.start hb0
       clear hw0
       refine (hSame_calls _ _ q.n w0 (zn1.below hb0) (zn2.below hb0) HLn.out).mono ?_; rintro e w1 ⟨rfl, hb1⟩; have f1 := f0.call hb1; obtain ⟨u0, u1, u2, u3⟩ := t1 _ f1; obtain ⟨u4, u5, u6, u7⟩ := t2 _ f1)
    | (go_at_call 104; have _h := hb1; refine (hSame_calls _ _ q.d _ (zd1.below (bl_trans hb0 hb1)) (zd2.below (bl_trans hb0 hb1)) HLd.out).mono ?_; rintro e w2 ⟨rfl, hb2⟩))
  go_ret
  exact ⟨rfl, bl_trans hb0 (bl_trans hb1 hb2)⟩
set_option maxHeartbeats 2000000 in
theorem hSameQ_calls (va vb : Value) (a b : Qr) (w : World) (ha : IsQ w va a) (hb : IsQ w vb b) (hv : a.val = b.val) (ha1 : a.S ≤ 4294967296) (hb1 : b.S ≤ 4294967296) :
    Calls Try.prog 52 #[va, vb] w fun e w' => e = .returned (.bool true) ∧ Below w.heap.size w w' := by
  have hA := ha
  have hB := hb
  obtain ⟨A1, c1, A2, c2, rfl⟩ := ha.slices
  obtain ⟨A3, c3, A4, c4, rfl⟩ := hb.slices
  have HV := Lib.hid hv
  have HL1 := Lib.hid ha1
  have HL2 := Lib.hid hb1
  clear ha hb hv ha1 hb1
  go_enter Try.func52, Try.ntmps52
  go_wp2
  generalize hw0 : World.alloc _ _ = w0
  have hb0 : Below w.heap.size w w0 := by subst hw0; exact bl_alloc2 (bl_alloc _ _) _
  have t1 : Box4 w w0 (fun _ => False) w.heap.size (.bool a.n.neg) (.slice A1 a.n.ws.length c1) (.bool a.d.neg) (.slice A2 a.d.ws.length c2) := Box4.mk (fun h => h) (by subst hw0; refine ⟨?_, ?_, ?_, ?_⟩ <;> go_simp)
  have t2 : Box4 w w0 (fun _ => False) (w.heap.size + 1) (.bool b.n.neg) (.slice A3 b.n.ws.length c3) (.bool b.d.neg) (.slice A4 b.d.ws.length c4) := Box4.mk (fun h => h) (by subst hw0; refine ⟨?_, ?_, ?_, ?_⟩ <;> go_simp)
  have f0 : Fr w w0 (fun _ => False) w0 := Fr.start hb0
  clear hw0
  go_region_held3 (fun W => Fr w w0 (fun _ => False) W) (first | assumption | exact f0.drew | exact Fr.call (by assumption) (by assumption)) (first
    | (go_at_call 98; (with_reducible refine (hLeastQ_calls _ a _ (hA.below (Fr.b (by assumption))) HL1.out).mono ?_); rintro e w1 ⟨q1, x1, HQ1, hS1, rfl, hN1, hb1⟩; have f1 := Fr.call (by assumption) hb1)
    | (go_at_call 98; (with_reducible refine (hLeastQ_calls _ b _ (hB.below (Fr.b (by assumption))) HL2.out).mono ?_); rintro e w2 ⟨q2, x2, HQ2, hS2, rfl, hN2, hb2⟩; have f2 := Fr.call (by assumption) hb2; have HE : Hid (q1 = q2) := Lib.hid (by rw [HQ1.out, HQ2.out, HV.out]))
    | (go_at_call 58; (with_reducible refine (hIs_calls _ _ q2 _ (by have h := hN1.is.below hb2; rw [HE.out] at h; exact h) hN2.is (by have := HL2.out; omega)).mono ?_); rintro e w3 ⟨rfl, hb3⟩; have f3 := Fr.call (by assumption) hb3))
  go_wp2
  go_ret
  exact ⟨rfl, f3.b⟩
end Go.Proofs.Ytnmmgegnioihmaa
namespace Go.Proofs.Ytnmmgegnioihmaa
open Go.RowKit

theorem canQ_neg_S (x : Rat) : (canQ (-x)).S = (canQ x).S := by
  unfold canQ Qr.S
  have h1 : (-x).num = -x.num := rfl
  have h2 : (-x).den = x.den := rfl
  simp only [h1, h2]
  have : (canZ (-x.num)).ws = (canZ x.num).ws := by unfold canZ; simp
  rw [this]
theorem neg_divInt' (n d : Int) : Rat.divInt (-n) d = -Rat.divInt n d := by rw [Rat.neg_divInt]
/-- the bounds that a product asks for -/
structure RefOk (n d : Int) (x : Rat) (B : Nat) : Prop where
  pos : 0 < d
  val : Rat.divInt n d = x
  S : (canQ x).S ≤ B
  ln : (canZ n).ws.length ≤ B
  ld : (canZ d).ws.length ≤ B
theorem ref_mul {a b : Qr} {w : World} {va vb : Value} (ha : IsQ w va a) (hb : IsQ w vb b) : LeastOk (a.nn * b.nn) (a.dd * b.dd) (a.val * b.val) (a.S + b.S) := by
  have := mul_ok (Parts.ref ha) (Parts.ref hb) ha.ok hb.ok
  dsimp only at this
  rwa [canZ_val, canZ_val, canZ_val, canZ_val] at this
theorem ref_add {a b : Qr} {w : World} {va vb : Value} (ha : IsQ w va a) (hb : IsQ w vb b) : LeastOk (a.nn * b.dd + b.nn * a.dd) (a.dd * b.dd) (a.val + b.val) (a.S + b.S) := by
  have := add_ok (Parts.ref ha) (Parts.ref hb) ha.ok hb.ok
  dsimp only at this
  rwa [canZ_val, canZ_val, canZ_val, canZ_val] at this
theorem ref_len {a : Qr} {w : World} {va : Value} (ha : IsQ w va a) : (canZ a.nn).ws.length ≤ a.S ∧ (canZ a.dd).ws.length ≤ a.S := ⟨(Parts.ref ha).ln, (Parts.ref ha).ld⟩
set_option maxHeartbeats 2000000 in
theorem hNegQ_calls (va : Value) (a : Qr) (w : World) (ha : IsQ w va a) (hlen : a.S ≤ 4294967296) : Calls Try.prog 111 #[va] w (PostQ w (-a.val) (a.S + 1)) := by
  have hA := ha
  have hp := Parts.ref ha
  have hc := can_ok hp ha.ok
  obtain ⟨A1, c1, A2, c2, rfl⟩ := ha.slices
  have HL : Hid (a.S ≤ 1099511627776) := Lib.hid (by omega)
  have HP := Lib.hid hp
  have HC : Hid ((canQ (-a.val)).S ≤ a.S + 1) := Lib.hid (by rw [canQ_neg_S]; exact hc)
  have HLN : Hid ((canZ a.nn).ws.length ≤ 1099511627776) := Lib.hid (by have := hp.ln; dsimp only at *; omega)
  have HLO : Hid ((canZ (-a.nn)).ws.length + (canZ a.dd).ws.length ≤ 34359738368) := Lib.hid (by
    have := hp.ln; have := hp.ld
    have e : (canZ (-a.nn)).ws = (canZ a.nn).ws := by unfold canZ; simp
    rw [e]; dsimp only at *; omega)
  have HV : Hid (Rat.divInt (-a.nn) a.dd = -a.val) := Lib.hid (by
    have := hp.val
    dsimp only at this
    rw [canZ_val, canZ_val] at this
    rw [neg_divInt', this])
  have HPO : Hid (0 < a.dd) := Lib.hid (by have := hp.pos; dsimp only at this; rwa [canZ_val] at this)
  clear ha hlen hp hc
  go_enter Try.func111, Try.ntmps111
  go_wp2
  generalize hw0 : World.alloc _ _ = w0
  have hb0 : Below w.heap.size w w0 := by subst hw0; exact bl_alloc2 (bl_alloc _ _) _
  have t1 : Box4 w w0 (· = w.heap.size + 1) w.heap.size (.bool a.n.neg) (.slice A1 a.n.ws.length c1) (.bool a.d.neg) (.slice A2 a.d.ws.length c2) := Box4.mk (by omega) (by subst hw0; refine ⟨?_, ?_, ?_, ?_⟩ <;> go_simp)
  have k0 : Four (w.heap.size + 1) w0 := by subst hw0; exact Four.alloc _ _ _ _ _ (by simp)
  have f0 : Fr w w0 (· = w.heap.size + 1) w0 := Fr.start hb0
  have z0 : w0.heap.size = w.heap.size + 2 := by subst hw0; simp
  clear hw0
  go_region_held3 (fun W => Fr w w0 (· = w.heap.size + 1) W) (first | assumption | exact f0.drew | exact Fr.call (by assumption) (by assumption) | exact Fr.put4 f3 (by rfl) (by omega) _ _ _ _) (first
    | (go_at_call 133; (with_reducible refine (hnum_calls _ a _ (hA.below (Fr.b (by assumption))) HL.out).mono ?_); rintro e w1 ⟨z1, x1, HZ1, rfl, hZ1, hb1⟩; have f1 := Fr.call (by assumption) hb1)
    | (go_at_call 141; (with_reducible refine (hNeg_calls _ z1 _ hZ1.is (by rw [HZ1.out]; exact HLN.out)).mono ?_); rintro e w4 ⟨z4, x4, HZ4, rfl, hZ4, hb4⟩; rw [HZ1.out, canZ_val] at HZ4; have f4 := Fr.call (by assumption) hb4)
    | (go_at_call 134; (with_reducible refine (hden_calls _ a _ (hA.below (Fr.b (by assumption))) HL.out).mono ?_); rintro e w2 ⟨z2, x2, HZ2, rfl, hZ2, hb2⟩; have f2 := Fr.call (by assumption) hb2)
    | (go_at_call 132; (with_reducible refine (hover_calls _ _ z4 z2 (-a.val) (a.S + 1) _ (hZ4.is.below hb2) hZ2.is (by rw [HZ2.out, canZ_val]; exact HPO.out) (by rw [HZ4.out, HZ2.out, canZ_val, canZ_val]; exact HV.out) HC.out (by rw [HZ4.out, HZ2.out]; exact HLO.out)).mono ?_); rintro e w3 ⟨q, x3, HQ, hS, rfl, hN, hb3⟩; have f3 := Fr.call (by assumption) hb3; obtain ⟨v5, v6, rfl, ⟨r5, A5, c5, rfl, h5⟩, ⟨r6, A6, c6, rfl, h6⟩⟩ := hN; obtain ⟨⟨x0, y0⟩, ⟨x1, y1⟩, ⟨x2, y2⟩, ⟨x3, y3⟩, g0, g1, g2, g3⟩ := (Fr.four f3 k0).cells))
  go_wp2
  have s2 := f2.size
  have hQ : NQ w2.heap.size w3 (.agg #[.bool q.n.neg, .slice A5 q.n.ws.length c5, .bool q.d.neg, .slice A6 q.d.ws.length c6]) q := ⟨_, _, rfl, ⟨r5, A5, c5, rfl, h5⟩, ⟨r6, A6, c6, rfl, h6⟩⟩
  exact bodyPost_ret (v := .agg #[.bool _, .slice _ _ _, .bool _, .slice _ _ _]) (by simp [results, Try.results111, go_sem, y0, y1, y2, y3]) rfl (postQ_put4 hQ HQ.out hS f3.b (by omega) (by omega))
set_option maxHeartbeats 4000000 in
theorem hMulQ_calls (va vb : Value) (a b : Qr) (w : World) (ha : IsQ w va a) (hb : IsQ w vb b) (hlen : a.S + b.S ≤ 4294967296) : Calls Try.prog 110 #[va, vb] w (PostQ w (a.val * b.val) (a.S + b.S)) := by
  have hA := ha
  have hB := hb
  have HM := Lib.hid (ref_mul ha hb)
  have HLA : Hid ((canZ a.nn).ws.length + (canZ b.nn).ws.length ≤ 274877906944) := Lib.hid (by have := ref_len ha; have := ref_len hb; omega)
  have HLB : Hid ((canZ a.dd).ws.length + (canZ b.dd).ws.length ≤ 274877906944) := Lib.hid (by have := ref_len ha; have := ref_len hb; omega)
  obtain ⟨A1, c1, A2, c2, rfl⟩ := ha.slices
  obtain ⟨A3, c3, A4, c4, rfl⟩ := hb.slices
  have HL1 : Hid (a.S ≤ 1099511627776) := Lib.hid (by omega)
  have HL2 : Hid (b.S ≤ 1099511627776) := Lib.hid (by omega)
  have HLO : Hid ((canZ (a.nn * b.nn)).ws.length + (canZ (a.dd * b.dd)).ws.length ≤ 34359738368) := Lib.hid (by have := HM.out.ln; have := HM.out.ld; omega)
  clear ha hb hlen
  go_enter Try.func110, Try.ntmps110
  go_wp2
  generalize hw0 : World.alloc _ _ = w0
  have hb0 : Below w.heap.size w w0 := by subst hw0; exact bl_alloc2 (bl_alloc2 (bl_alloc _ _) _) _
  have t1 : Box4 w w0 (· = w.heap.size + 2) w.heap.size (.bool a.n.neg) (.slice A1 a.n.ws.length c1) (.bool a.d.neg) (.slice A2 a.d.ws.length c2) := Box4.mk (by omega) (by subst hw0; refine ⟨?_, ?_, ?_, ?_⟩ <;> go_simp)
  have t2 : Box4 w w0 (· = w.heap.size + 2) (w.heap.size + 1) (.bool b.n.neg) (.slice A3 b.n.ws.length c3) (.bool b.d.neg) (.slice A4 b.d.ws.length c4) := Box4.mk (by omega) (by subst hw0; refine ⟨?_, ?_, ?_, ?_⟩ <;> go_simp)
  have k0 : Four (w.heap.size + 2) w0 := by subst hw0; exact Four.alloc _ _ _ _ _ (by simp)
  have f0 : Fr w w0 (· = w.heap.size + 2) w0 := Fr.start hb0
  have z0 : w0.heap.size = w.heap.size + 3 := by subst hw0; simp
  clear hw0
  go_region_held3 (fun W => Fr w w0 (· = w.heap.size + 2) W) (first | assumption | exact f0.drew | exact Fr.call (by assumption) (by assumption) | exact Fr.put4 f9 (by rfl) (by omega) _ _ _ _) (first
    | (go_at_call 133; (with_reducible refine (hnum_calls _ a _ (hA.below (Fr.b (by assumption))) HL1.out).mono ?_); rintro e w1 ⟨z1, x1, HZ1, rfl, hZ1, hb1⟩; have f1 := Fr.call (by assumption) hb1)
    | (go_at_call 133; (with_reducible refine (hnum_calls _ b _ (hB.below (Fr.b (by assumption))) HL2.out).mono ?_); rintro e w2 ⟨z2, x2, HZ2, rfl, hZ2, hb2⟩; have f2 := Fr.call (by assumption) hb2)
    | (go_at_call 139; (with_reducible refine (hMul_calls _ _ z1 z2 _ (hZ1.is.below hb2) hZ2.is (by rw [HZ1.out, HZ2.out]; exact HLA.out)).mono ?_); rintro e w3 ⟨z3, x3, HZ3, rfl, hZ3, hb3⟩; rw [HZ1.out, HZ2.out, canZ_val, canZ_val] at HZ3; have f3 := Fr.call (by assumption) hb3)
    | (go_at_call 134; (with_reducible refine (hden_calls _ a _ (hA.below (Fr.b (by assumption))) HL1.out).mono ?_); rintro e w4 ⟨z4, x4, HZ4, rfl, hZ4, hb4⟩; have f4 := Fr.call (by assumption) hb4)
    | (go_at_call 134; (with_reducible refine (hden_calls _ b _ (hB.below (Fr.b (by assumption))) HL2.out).mono ?_); rintro e w5 ⟨z5, x5, HZ5, rfl, hZ5, hb5⟩; have f5 := Fr.call (by assumption) hb5)
    | (go_at_call 139; (with_reducible refine (hMul_calls _ _ z4 z5 _ (hZ4.is.below hb5) hZ5.is (by rw [HZ4.out, HZ5.out]; exact HLB.out)).mono ?_); rintro e w6 ⟨z6, x6, HZ6, rfl, hZ6, hb6⟩; rw [HZ4.out, HZ5.out, canZ_val, canZ_val] at HZ6; have f6 := Fr.call (by assumption) hb6)
    | (go_at_call 132; (with_reducible refine (hover_calls _ _ z3 z6 (a.val * b.val) (a.S + b.S) _ (hZ3.is.below (bl_trans hb4 (bl_trans hb5 hb6))) hZ6.is (by rw [HZ6.out, canZ_val]; exact HM.out.pos) (by rw [HZ3.out, HZ6.out, canZ_val, canZ_val]; exact HM.out.val) HM.out.S (by rw [HZ3.out, HZ6.out]; exact HLO.out)).mono ?_); rintro e w9 ⟨q, x9, HQ, hS, rfl, hN, hb9⟩; have f9 := Fr.call (by assumption) hb9; obtain ⟨v5, v6, rfl, ⟨r5, A5, c5, rfl, h5⟩, ⟨r6, A6, c6, rfl, h6⟩⟩ := hN; obtain ⟨⟨x0, y0⟩, ⟨x1, y1⟩, ⟨x2, y2⟩, ⟨x3, y3⟩, g0, g1, g2, g3⟩ := (Fr.four f9 k0).cells))
  go_wp2
  have s2 := f6.size
  have hQ : NQ w6.heap.size w9 (.agg #[.bool q.n.neg, .slice A5 q.n.ws.length c5, .bool q.d.neg, .slice A6 q.d.ws.length c6]) q := ⟨_, _, rfl, ⟨r5, A5, c5, rfl, h5⟩, ⟨r6, A6, c6, rfl, h6⟩⟩
  exact bodyPost_ret (v := .agg #[.bool _, .slice _ _ _, .bool _, .slice _ _ _]) (by simp [results, Try.results110, go_sem, y0, y1, y2, y3]) rfl (postQ_put4 hQ HQ.out hS f9.b (by omega) (by omega))
end Go.Proofs.Ytnmmgegnioihmaa
