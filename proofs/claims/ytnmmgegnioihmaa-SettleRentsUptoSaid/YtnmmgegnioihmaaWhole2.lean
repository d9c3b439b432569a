/- The walks of package whole, part 2. -/
import Derived.Test.YtnmmgegnioihmaaWhole1
set_option linter.unusedVariables false
set_option linter.unusedSimpArgs false
namespace Go.Proofs.Ytnmmgegnioihmaa
open Go.RowKit

theorem trim_len_zero {xs : List Nat} (h : Rng xs) : (trim xs).length = 0 ↔ val xs = 0 := by
  rw [trim_eq h, List.length_eq_zero_iff, wordsOf_eq_nil]
theorem sign_zero {z : Zr} (h : (trim z.ws).length = 0) (hr : Rng z.ws) : z.val.sign = 0 := by
  have := (trim_len_zero hr).1 h
  unfold Zr.val; rw [this]; cases z.neg <;> rfl
theorem sign_neg {z : Zr} (h : (trim z.ws).length ≠ 0) (hr : Rng z.ws) (hn : z.neg = true) : z.val.sign = -1 := by
  have := (not_congr (trim_len_zero hr)).1 h
  unfold Zr.val; rw [hn, if_pos rfl]; exact Int.sign_eq_neg_one_of_neg (by omega)
theorem sign_pos {z : Zr} (h : (trim z.ws).length ≠ 0) (hr : Rng z.ws) (hn : z.neg = false) : z.val.sign = 1 := by
  have := (not_congr (trim_len_zero hr)).1 h
  unfold Zr.val; rw [hn]; exact Int.sign_eq_one_of_pos (by simp; omega)

set_option maxHeartbeats 400000 in
theorem Sign_calls (v : Value) (z : Zr) (w : World) (h : IsZ w v z) :
    Calls Try.prog 122 #[v] w fun e w' => e = .returned (.int .i64 z.val.sign) ∧ Below w.heap.size w w' := by
  obtain ⟨v1, rfl, hr, A, c, rfl, hrow⟩ := h
  by_cases h0 : (trim z.ws).length = 0
  · have hs := sign_zero h0 hr
    have HS := Lib.hid hs
    have H0 := Lib.hid h0
    clear hs h0
    go_enter Try.func122, Try.ntmps122
    go_wp2_with (go_at_call 144; refine (trim_at _ _ _ _ (hrow.below ((Below.refl _ _).alloc (Nat.le_refl _) _))).mono ?_; rintro e w' ⟨rfl, rfl⟩; rw [H0.out])
    go_ret
    exact ⟨ret_int HS.out.symm, (Below.refl _ _).alloc (Nat.le_refl _) _⟩
  · have hb : (((trim z.ws).length : Int) == 0) = false := by rw [beq_eq_false_iff_ne]; omega
    cases hn : z.neg
    · have hs := sign_pos h0 hr hn
      have HS := Lib.hid hs
      clear hs h0
      go_enter Try.func122, Try.ntmps122
      go_wp2_with (go_at_call 144; refine (trim_at _ _ _ _ (hrow.below ((Below.refl _ _).alloc (Nat.le_refl _) _))).mono ?_; rintro e w' ⟨rfl, rfl⟩)
      go_ret
      exact ⟨ret_int HS.out.symm, (Below.refl _ _).alloc (Nat.le_refl _) _⟩
    · have hs := sign_neg h0 hr hn
      have HS := Lib.hid hs
      clear hs h0
      go_enter Try.func122, Try.ntmps122
      go_wp2_with (go_at_call 144; refine (trim_at _ _ _ _ (hrow.below ((Below.refl _ _).alloc (Nat.le_refl _) _))).mono ?_; rintro e w' ⟨rfl, rfl⟩)
      go_ret
      exact ⟨ret_int HS.out.symm, (Below.refl _ _).alloc (Nat.le_refl _) _⟩

theorem u64_neg {i : Int} (h0 : i < 0) (h1 : -9223372036854775808 ≤ i) : IntKind.u64.wrap (-IntKind.u64.wrap i) = (i.natAbs : Int) := by
  simp only [IntKind.wrap]; simp [IntKind.bits, IntKind.signed]; omega
theorem u64_pos {i : Int} (h0 : ¬ i < 0) (h1 : i ≤ 9223372036854775807) : IntKind.u64.wrap i = (i.natAbs : Int) := by
  simp only [IntKind.wrap]; simp [IntKind.bits, IntKind.signed]; omega
theorem val_two (n : Nat) : val [n % 4294967296, n / 4294967296] = n := by simp [val]; omega
theorem rng_two {n : Nat} (h : n ≤ 9223372036854775808) : Rng [n % 4294967296, n / 4294967296] := Rng.cons (by omega) (Rng.cons (by omega) Rng.nil)
theorem nrow_two {n0 : Nat} {w : World} {b : Nat} {n : Nat} (h : n ≤ 9223372036854775808) (T : TypeId) (hn : n0 ≤ b) (hw : w.heap[b]? = some (.cells #[.int .u32 ((n : Int) % 4294967296), .int .u32 ((n : Int) / 4294967296)] T (0, 0))) :
    NRow encW n0 w (some ⟨b, 0, none⟩) 2 [n % 4294967296, n / 4294967296] :=
  NRow.new hw hn (by unfold maxLen; omega) (by simp) (by
    intro j x hj
    match j with
    | 0 => simp at hj ⊢; subst hj; simp [encW]
    | 1 => simp at hj ⊢; subst hj; simp [encW]
    | j + 2 => simp at hj)
set_option maxHeartbeats 400000 in
theorem FromInt64_calls (i : Int) (w : World) (h1 : -9223372036854775808 ≤ i) (h2 : i ≤ 9223372036854775807) :
    Calls Try.prog 115 #[.int .i64 i] w (PostZ w i) := by
  have hm : i.natAbs ≤ 9223372036854775808 := by omega
  by_cases h0 : i < 0
  · have e1 := u64_neg h0 h1
    have hv : (if true then -(val [i.natAbs % 4294967296, i.natAbs / 4294967296] : Int) else (val [i.natAbs % 4294967296, i.natAbs / 4294967296] : Int)) = i := by rw [val_two]; simp; omega
    have hd2 : (i.natAbs : Int) / 4294967296 % 4294967296 = (i.natAbs : Int) / 4294967296 := by omega
    have HV := Lib.hid hv
    clear hv
    generalize i.natAbs = m at *
    go_enter Try.func115, Try.ntmps115
    go_wp2_with fail
    have hN := nrow_two (n0 := w.heap.size + 1) (w := (w.alloc (.cells #[.bool false, .slice none 0 0] 41)).alloc (.cells #[.int .u32 ((m : Int) % 4294967296), .int .u32 ((m : Int) / 4294967296)] 100)) (b := w.heap.size + 1) hm 100 (Nat.le_refl _) (by simpa using heap_alloc_new (w.alloc (.cells #[.bool false, .slice none 0 0] 41)) _)
    refine (made_at _ _ 2 _ _ hN.toRow).mono ?_
    rintro e w1 ⟨rfl, hb1⟩
    have hb := bl_trans (bl_alloc2 (bl_alloc w _) _) hb1
    obtain ⟨⟨x0, y0⟩, ⟨x1, y1⟩, g0, g1⟩ := ((Two.alloc (W := w) (.bool false) (.slice none 0 0) 41 rfl).below (bl_trans (bl_alloc _ _) hb1)).cells
    have hZ := made_NZ true (rng_two hm) (hN.below hb1) HV.out
    go_wp2
    refine bodyPost_ret (v := .agg #[.bool _, .slice _ _ 2]) (by simp [results, Try.results115, go_sem, y0, y1]) rfl (postZ_put2 hZ rfl hb (Nat.le_refl _) (Nat.lt_succ_self _))
  · have e1 := u64_pos h0 h2
    have hv : (if false then -(val [i.natAbs % 4294967296, i.natAbs / 4294967296] : Int) else (val [i.natAbs % 4294967296, i.natAbs / 4294967296] : Int)) = i := by rw [val_two]; simp; omega
    have hd2 : (i.natAbs : Int) / 4294967296 % 4294967296 = (i.natAbs : Int) / 4294967296 := by omega
    have HV := Lib.hid hv
    clear hv
    generalize i.natAbs = m at *
    go_enter Try.func115, Try.ntmps115
    go_wp2_with fail
    have hN := nrow_two (n0 := w.heap.size + 1) (w := (w.alloc (.cells #[.bool false, .slice none 0 0] 41)).alloc (.cells #[.int .u32 ((m : Int) % 4294967296), .int .u32 ((m : Int) / 4294967296)] 100)) (b := w.heap.size + 1) hm 100 (Nat.le_refl _) (by simpa using heap_alloc_new (w.alloc (.cells #[.bool false, .slice none 0 0] 41)) _)
    refine (made_at _ _ 2 _ _ hN.toRow).mono ?_
    rintro e w1 ⟨rfl, hb1⟩
    have hb := bl_trans (bl_alloc2 (bl_alloc w _) _) hb1
    obtain ⟨⟨x0, y0⟩, ⟨x1, y1⟩, g0, g1⟩ := ((Two.alloc (W := w) (.bool false) (.slice none 0 0) 41 rfl).below (bl_trans (bl_alloc _ _) hb1)).cells
    have hZ := made_NZ false (rng_two hm) (hN.below hb1) HV.out
    go_wp2
    refine bodyPost_ret (v := .agg #[.bool _, .slice _ _ 2]) (by simp [results, Try.results115, go_sem, y0, y1]) rfl (postZ_put2 hZ rfl hb (Nat.le_refl _) (Nat.lt_succ_self _))

theorem info_u32 : (Try.prog.info? 100).map (fun i => (i.zero, i.size, i.bytes)) = some (some (.int .u32 0), 1, 4) := by kernel_rfl
set_option maxHeartbeats 400000 in
theorem Clone_calls (v : Value) (xs : List Nat) (w : World) (h : IsW w v xs) (hlen : xs.length ≤ 35184372088832) :
    Calls Try.prog 166 #[v] w (PostW w xs) := by
  obtain ⟨hr, A, c, rfl, hrow⟩ := h
  have hnil := fun (w : World) (a : Option Addr) (n c n' c' : Nat) => Lib.run_eql_slice_nil (P := Try.prog) w _ _ a n c n' c' Try.underlying39
  have HL := Lib.hid hlen
  clear hlen
  obtain ⟨i0, hi, hz0, hz1, hz2⟩ := info_parts info_u32
  go_enter Try.func166, Try.ntmps166
  cases A with
  | none =>
    obtain rfl : xs = [] := by
      cases xs with
      | nil => rfl
      | cons x xs => obtain ⟨b, off, e, _⟩ := hrow.rd (by simp); cases e
    go_wp2
    go_ret
    exact ⟨[], _, rfl, rfl, ⟨Rng.nil, none, 0, rfl, NRow.nil _ _ _⟩, Below.refl _ _⟩
  | some a =>
    have h1 : xs.length ≤ maxLen := Nat.le_trans hrow.le hrow.mx
    go_wp2_with (at_builtin; refine wpList_append_own _ rfl _ _ 39 rfl w.heap.size 100 i0 (.int .u32 0) 1 4 Try.underlying39 hi hz0 hz1 hz2 rfl (by decide) (.slice (some ⟨w.heap.size, 0, none⟩) 0 0) 0 [] rfl (own_empty w _ (Nat.le_refl _)) a xs.length c (xs.map encW) rfl (by simp) (hrow.below (bl_alloc _ _)).news (oneCell_map (fun _ => rfl) xs) (by omega) (by have := HL.out; omega) (by simp) ?_; intro v' w1 hown hg _)
    go_ret
    rw [Nat.zero_add, List.nil_append] at hown
    obtain ⟨A', c', rfl, -, hN⟩ := NRow.of_own hown
    exact ⟨xs, _, rfl, rfl, ⟨hr, A', c', rfl, hN⟩, grown_below (bl_alloc w _) hg (by simp) (by simp [Value.ownBlock])⟩

set_option maxHeartbeats 1000000 in
theorem whole_Neg_calls (v : Value) (z : Zr) (w : World) (h : IsZ w v z) (hlen : z.ws.length ≤ 35184372088832) :
    Calls Try.prog 142 #[v] w (PostZ w (-z.val)) := by
  obtain ⟨v1, rfl, hz⟩ := h
  have HL := Lib.hid hlen
  clear hlen
  go_enter Try.func142, Try.ntmps142
  go_wp2
  generalize hw0 : World.alloc _ _ = w0
  have hb0 : Below w.heap.size w w0 := by subst hw0; exact bl_alloc2 (bl_alloc _ _) _
  have t1 : Box2 w w0 (· = w.heap.size + 1) w.heap.size (.bool z.neg) v1 := Box2.mk (by omega) (by subst hw0; refine ⟨?_, ?_⟩ <;> go_simp)
  have k0 : Two (w.heap.size + 1) w0 := by subst hw0; exact Two.alloc _ _ _ (by simp)
  have f0 : Fr w w0 (· = w.heap.size + 1) w0 := Fr.start hb0
  have z0 : w0.heap.size = w.heap.size + 2 := by subst hw0; simp
  clear hw0
  go_region_held3 (fun W => Fr w w0 (· = w.heap.size + 1) W) (first | assumption | exact f0.drew | exact Fr.call (by assumption) (by assumption) | exact Fr.put2 f2 (by rfl) (by omega) _ _) (first
    | (go_at_call 166; (with_reducible refine (Clone_calls _ _ _ (hz.below (Fr.b (by assumption))) HL.out).mono ?_); rintro e w1 ⟨ys, v2, hy, rfl, r1, hb1⟩; obtain ⟨hr, A, c, rfl, hN⟩ := r1)
    | (go_at_call 141; (with_reducible refine (made_at _ _ _ _ _ hN.toRow).mono ?_); rintro e w2 ⟨rfl, hb2⟩; have f2 := Fr.call (by assumption) hb2; obtain ⟨⟨x0, y0⟩, ⟨x1, y1⟩, g0, g1⟩ := (Fr.two f2 k0).cells))
  go_wp2
  have hZ := made_NZ (!z.neg) hr (hN.below hb2) (i := -z.val) (by rw [hy.out]; unfold Zr.val; cases z.neg <;> simp)
  refine bodyPost_ret (v := .agg #[.bool _, .slice _ _ _]) (by simp [results, Try.results142, go_sem, y0, y1]) rfl (postZ_put2 hZ rfl f2.b (by omega) (by simp; omega))
end Go.Proofs.Ytnmmgegnioihmaa
