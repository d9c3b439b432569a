/- The laws' own helpers: in of layer 36: the value of all injections. -/
import Derived.Test.YtnmmgegnioihmaaN2
set_option linter.unusedVariables false
set_option linter.unusedSimpArgs false
namespace Go.Proofs.Ytnmmgegnioihmaa
open Go.RowKit

/-- f 0 + .. + f (n - 1) -/
def sumF (n : Nat) (f : Nat → Rat) : Rat := sumV ((List.range n).map f)
theorem sumF_zero (f : Nat → Rat) : sumF 0 f = 0 := rfl
theorem sumF_succ (n : Nat) (f : Nat → Rat) : sumF (n + 1) f = sumF n f + f n := by simp [sumF, List.range_succ, sumV_snoc]
/-- price at its bus times quantity -/
def inj (xs : List Int) (P G : List Qr) (k : Nat) : Rat := (P.getD (xs.getD k 0).toNat zeroQ).val * (G.getD k zeroQ).val
def inV (ys zs : List Int) (P G T : List Qr) : Rat := sumF ys.length (inj ys P G) - sumF zs.length (inj zs P T)
set_option maxHeartbeats 8000000 in
theorem in36_calls (B4 B5 P1 G1 T1 : Option Addr) (d4 d5 p1 g1 t1 : Nat) (ys zs : List Int) (P G T : List Qr) (M : Nat) (w : World) (hy : Row enc64 w B4 d4 ys) (hz : Row enc64 w B5 d5 zs) (yr : ∀ y ∈ ys, 0 ≤ y ∧ y < P.length) (zr : ∀ y ∈ zs, 0 ≤ y ∧ y < P.length)
    (hP : QRow w P1 p1 P) (hG : QRow w G1 g1 G) (hT : QRow w T1 t1 T) (sP : ∀ q ∈ P, q.S ≤ M) (sG : ∀ q ∈ G, q.S ≤ M) (sT : ∀ q ∈ T, q.S ≤ M) (h1 : 1 ≤ M) (hM : M ≤ 1099511627) (hyl : ys.length ≤ 12) (hzl : zs.length ≤ 12) :
    Calls Try.prog 39 #[.slice B4 ys.length d4, .slice B5 zs.length d5, .slice P1 P.length p1, .slice G1 G.length g1, .slice T1 T.length t1] w (PostQ w (inV ys zs P G T) (1 + 50 * M)) := by
  have HS := Lib.hid (And.intro sP (And.intro sG (And.intro sT (And.intro yr zr))))
  clear sP sG sT yr zr
  go_enter Try.func39, Try.ntmps39
  go_wp2
  generalize hw0 : World.alloc _ _ = w0
  have hb0 : Below w.heap.size w w0 := by subst hw0; exact bl_alloc2 (bl_alloc _ _) _
  have k0 : Four w.heap.size w0 := by subst hw0; exact (Four.alloc _ _ _ _ _ rfl).below (bl_alloc _ _)
  have k1 : Four (w.heap.size + 1) w0 := by subst hw0; exact Four.alloc _ _ _ _ _ (by simp)
  have hzc : w0.cell? ⟨w.heap.size + 1, 0, none⟩ = some (.bool false) ∧ w0.cell? ⟨w.heap.size + 1, 1, none⟩ = some (.slice none 0 0) ∧ w0.cell? ⟨w.heap.size + 1, 2, none⟩ = some (.bool false) ∧ w0.cell? ⟨w.heap.size + 1, 3, none⟩ = some (.slice none 0 0) := by
    subst hw0; refine ⟨?_, ?_, ?_, ?_⟩ <;> go_simp
  have z0 : w.heap.size + 2 ≤ w0.heap.size := by subst hw0; simp
  clear hw0
  go_loopw [12] (fun i wr => ∃ (k : Nat) (q : Qr) (A1 : Option Addr) (c1 : Nat) (A2 : Option Addr) (c2 : Nat), k ≤ ys.length ∧ i = .int .i64 k ∧
    (wr.cell? ⟨w.heap.size + 1, 0, none⟩ = some (.bool q.n.neg) ∧ wr.cell? ⟨w.heap.size + 1, 1, none⟩ = some (.slice A1 q.n.ws.length c1) ∧ wr.cell? ⟨w.heap.size + 1, 2, none⟩ = some (.bool q.d.neg) ∧ wr.cell? ⟨w.heap.size + 1, 3, none⟩ = some (.slice A2 q.d.ws.length c2)) ∧
    NQ (w.heap.size + 2) wr (.agg #[.bool q.n.neg, .slice A1 q.n.ws.length c1, .bool q.d.neg, .slice A2 q.d.ws.length c2]) q ∧ Four w.heap.size wr ∧ Four (w.heap.size + 1) wr ∧ Hid (q = canQ (sumF k (inj ys P G))) ∧ q.S ≤ 1 + 2 * (k) * M ∧ Below w.heap.size w wr ∧ w.heap.size + 2 ≤ wr.heap.size) (fun i _ => ys.length - (intOf i).toNat)
  case atStart => exact ⟨0, zeroQ, none, 0, none, 0, Nat.zero_le _, rfl, hzc, zeroN _ _, k0, k1, Lib.hid canQ_zero.symm, by simp [zeroQ_S], hb0, z0⟩
  case round =>
    obtain ⟨k, q, A1, c1, A2, c2, hk, rfl, ⟨y0, y1, y2, y3⟩, hq, k0', k1', HQ, hSq, hb, hz'⟩ := hrel
    by_cases hlt : k < ys.length
    · obtain ⟨bx, ox, rfl, hc⟩ := row64_at hy hlt
      have hyk := HS.out.2.2.2.1 (ys.getD k 0) (by rw [List.getD_eq_getElem?_getD, List.getElem?_eq_getElem hlt]; simp)
      obtain ⟨val, hval⟩ : ∃ v, v = inj ys P G k := ⟨_, rfl⟩
      have HJ := Lib.hid hval
      unfold inj at hval
      obtain ⟨y, hye⟩ : ∃ y, y = ys.getD k 0 := ⟨_, rfl⟩
      rw [← hye] at hc hyk hval
      clear hye
      obtain ⟨yn, rfl⟩ : ∃ yn : Nat, y = yn := ⟨y.toNat, by omega⟩
      rw [Int.toNat_natCast] at hval
      have hyP : yn < P.length := by omega
      obtain ⟨bp, op, A5, a5, A6, a6, rfl, y4, y5, y6, y7, hqp⟩ := hP.at hyP
      have sp := getD_S HS.out.1 h1 yn
      have sg := getD_S HS.out.2.1 h1 k
      obtain ⟨qp, ep⟩ : ∃ q, q = P.getD yn zeroQ := ⟨_, rfl⟩
      obtain ⟨qg, eg⟩ : ∃ q, q = G.getD k zeroQ := ⟨_, rfl⟩
      have EG := Lib.hid eg
      rw [← ep, ← eg] at hval
      rw [← ep] at y4 y5 y6 y7 hqp sp
      rw [← eg] at sg
      clear ep eg
      have HV := Lib.hid hval
      have e1 : 2 * (k + 1) * M = 2 * (k) * M + 2 * M := by rw [Nat.mul_add, Nat.add_mul]
      have hmul : 2 * (k + 1) * M ≤ 50 * M := Nat.mul_le_mul_right _ (by omega)
      have HSQ : Hid (8 * (q.S + (qp.S + qg.S)) + 8 ≤ 35184372088832 ∧ q.S + (qp.S + qg.S) ≤ 1 + 2 * (k + 1) * M) := Lib.hid (by omega)
      clear hval sp sg e1 hmul hSq
      replace y4 := bl_cell hb y4
      replace y5 := bl_cell hb y5
      replace y6 := bl_cell hb y6
      replace y7 := bl_cell hb y7
      replace hc := bl_cell hb hc
      replace hqp := hqp.below hb
      have hgr := ((hG.isR).below hb).below (Below.refl wr.heap.size wr).drew
      go_wp2
      go_region_with (first
        | (go_at_call 35; (with_reducible refine (refAt_calls _ G k _ hgr).mono ?_); rintro e w11 ⟨v11, rfl, hq11, hb11⟩; rw [← EG.out] at hq11; have hq11' := hq11.below hb11; obtain ⟨A7, a7, A8, a8, rfl⟩ := hq11.slices; have b11 := bl_trans (Below.refl wr.heap.size wr).drew hb11; have ya := bl_cell b11 y0; have yb := bl_cell b11 y1; have yc := bl_cell b11 y2; have yd := bl_cell b11 y3; have yi := bl_cell b11 y4; have yj := bl_cell b11 y5; have yk := bl_cell b11 y6; have yl := bl_cell b11 y7; have hc1 := bl_cell b11 hc)
        | (go_at_call 34; (with_reducible refine (frac_Mul_calls _ _ qp qg _ (hqp.below b11) hq11' (by have := HSQ.out; omega)).mono ?_); rintro e w12 ⟨q12, v12, HQ12, hS12, rfl, hN12, hb12⟩; have hq12 := hN12.is; obtain ⟨A9, a9, A10, a10, rfl⟩ := hq12.slices; have b12 := bl_trans b11 hb12; have ye := bl_cell b12 y0; have yf := bl_cell b12 y1; have yg := bl_cell b12 y2; have yh := bl_cell b12 y3)
        | (go_at_call 37; (with_reducible refine (frac_Add_calls _ _ q q12 _ (hq.is.below b12) hq12 (by have := HSQ.out; omega)).mono ?_); rintro e w13 ⟨q13, v13, HQ13, hS13, rfl, hN13, hb13⟩; have b13 := bl_trans b12 hb13; obtain ⟨v5, v6, rfl, ⟨r5, C5, m5, rfl, h5⟩, ⟨r6, C6, m6, rfl, h6⟩⟩ := hN13; have k13 := k1'.below b13; obtain ⟨⟨x0, n0⟩, ⟨x1, n1⟩, ⟨x2, n2⟩, ⟨x3, n3⟩, g0, g1', g2, g3⟩ := k13.cells))
      all_goals go_wp2
      all_goals (have s12 := b12.size)
      all_goals go_roundw
      all_goals (first
        | (refine ⟨k + 1, q13, C5, m5, C6, m6, by omega, by simp, k13.at4 _ _ _ _, NQ.mono (NQ.put4 ⟨_, _, rfl, ⟨r5, C5, m5, rfl, h5⟩, ⟨r6, C6, m6, rfl, h6⟩⟩ (by omega)) (by omega), Four.putO (k0'.below b13) (by omega) _ _ _ _, k13.put _ _ _ _, Lib.hid ?_, Nat.le_trans (Nat.le_trans hS13 (Nat.add_le_add_left hS12 _)) HSQ.out.2, bl_put4 (bl_trans hb b13) (by omega), by have := b13.size; simp; omega⟩
           rw [HQ13.out, HQ.out, canQ_val, HQ12.out, canQ_val, sumF_succ, ← HJ.out, HV.out])
        | (simp [intOf]; omega))
    · obtain rfl : k = ys.length := by omega
      go_wp2
      obtain ⟨q0, A01, c01, A02, c02, hzc, hq0, k0, k1, HQ0, hS0, hb0, z0⟩ : ∃ (q0 : Qr) (A01 : Option Addr) (c01 : Nat) (A02 : Option Addr) (c02 : Nat), (wr.cell? ⟨w.heap.size + 1, 0, none⟩ = some (.bool q0.n.neg) ∧ wr.cell? ⟨w.heap.size + 1, 1, none⟩ = some (.slice A01 q0.n.ws.length c01) ∧ wr.cell? ⟨w.heap.size + 1, 2, none⟩ = some (.bool q0.d.neg) ∧ wr.cell? ⟨w.heap.size + 1, 3, none⟩ = some (.slice A02 q0.d.ws.length c02)) ∧
        NQ (w.heap.size + 2) wr (.agg #[.bool q0.n.neg, .slice A01 q0.n.ws.length c01, .bool q0.d.neg, .slice A02 q0.d.ws.length c02]) q0 ∧ Four w.heap.size wr ∧ Four (w.heap.size + 1) wr ∧ Hid (q0 = canQ (sumF ys.length (inj ys P G))) ∧ q0.S ≤ 1 + 2 * ys.length * M ∧ Below w.heap.size w wr ∧ w.heap.size + 2 ≤ wr.heap.size := ⟨q, A1, c1, A2, c2, ⟨y0, y1, y2, y3⟩, hq, k0', k1', HQ, hSq, hb, hz'⟩
      clear hq k0' k1' HQ hSq hb hz' y0 y1 y2 y3
      go_loopw [13] (fun i wr => ∃ (k : Nat) (q : Qr) (A1 : Option Addr) (c1 : Nat) (A2 : Option Addr) (c2 : Nat), k ≤ zs.length ∧ i = .int .i64 k ∧
        (wr.cell? ⟨w.heap.size + 1, 0, none⟩ = some (.bool q.n.neg) ∧ wr.cell? ⟨w.heap.size + 1, 1, none⟩ = some (.slice A1 q.n.ws.length c1) ∧ wr.cell? ⟨w.heap.size + 1, 2, none⟩ = some (.bool q.d.neg) ∧ wr.cell? ⟨w.heap.size + 1, 3, none⟩ = some (.slice A2 q.d.ws.length c2)) ∧
        NQ (w.heap.size + 2) wr (.agg #[.bool q.n.neg, .slice A1 q.n.ws.length c1, .bool q.d.neg, .slice A2 q.d.ws.length c2]) q ∧ Four w.heap.size wr ∧ Four (w.heap.size + 1) wr ∧ Hid (q = canQ (sumF ys.length (inj ys P G) - sumF k (inj zs P T))) ∧ q.S ≤ 1 + 2 * (ys.length + k) * M ∧ Below w.heap.size w wr ∧ w.heap.size + 2 ≤ wr.heap.size) (fun i _ => zs.length - (intOf i).toNat)
      case atStart => exact ⟨0, q0, A01, c01, A02, c02, Nat.zero_le _, rfl, hzc, hq0, k0, k1, Lib.hid (by rw [HQ0.out, sumF_zero, Rat.sub_eq_add_neg, Rat.neg_zero, Rat.add_zero]), by simpa using hS0, hb0, z0⟩
      case round =>
        obtain ⟨k, q, A1, c1, A2, c2, hk, rfl, ⟨y0, y1, y2, y3⟩, hq, k0', k1', HQ, hSq, hb, hz'⟩ := hrel
        by_cases hlt : k < zs.length
        · obtain ⟨bx, ox, rfl, hc⟩ := row64_at hz hlt
          have hyk := HS.out.2.2.2.2 (zs.getD k 0) (by rw [List.getD_eq_getElem?_getD, List.getElem?_eq_getElem hlt]; simp)
          obtain ⟨val, hval⟩ : ∃ v, v = inj zs P T k := ⟨_, rfl⟩
          have HJ := Lib.hid hval
          unfold inj at hval
          obtain ⟨y, hye⟩ : ∃ y, y = zs.getD k 0 := ⟨_, rfl⟩
          rw [← hye] at hc hyk hval
          clear hye
          obtain ⟨yn, rfl⟩ : ∃ yn : Nat, y = yn := ⟨y.toNat, by omega⟩
          rw [Int.toNat_natCast] at hval
          have hyP : yn < P.length := by omega
          obtain ⟨bp, op, A5, a5, A6, a6, rfl, y4, y5, y6, y7, hqp⟩ := hP.at hyP
          have sp := getD_S HS.out.1 h1 yn
          have sg := getD_S HS.out.2.2.1 h1 k
          obtain ⟨qp, ep⟩ : ∃ q, q = P.getD yn zeroQ := ⟨_, rfl⟩
          obtain ⟨qg, eg⟩ : ∃ q, q = T.getD k zeroQ := ⟨_, rfl⟩
          have EG := Lib.hid eg
          rw [← ep, ← eg] at hval
          rw [← ep] at y4 y5 y6 y7 hqp sp
          rw [← eg] at sg
          clear ep eg
          have HV := Lib.hid hval
          have e1 : 2 * (ys.length + k + 1) * M = 2 * (ys.length + k) * M + 2 * M := by rw [Nat.mul_add, Nat.add_mul]
          have hmul : 2 * (ys.length + k + 1) * M ≤ 50 * M := Nat.mul_le_mul_right _ (by omega)
          have HSQ : Hid (8 * (q.S + (qp.S + qg.S)) + 8 ≤ 35184372088832 ∧ q.S + (qp.S + qg.S) ≤ 1 + 2 * (ys.length + k + 1) * M) := Lib.hid (by omega)
          clear hval sp sg e1 hmul hSq
          replace y4 := bl_cell hb y4
          replace y5 := bl_cell hb y5
          replace y6 := bl_cell hb y6
          replace y7 := bl_cell hb y7
          replace hc := bl_cell hb hc
          replace hqp := hqp.below hb
          have hgr := ((hT.isR).below hb).below (Below.refl wr.heap.size wr).drew
          go_wp2
          go_region_with (first
            | (go_at_call 35; (with_reducible refine (refAt_calls _ T k _ hgr).mono ?_); rintro e w11 ⟨v11, rfl, hq11, hb11⟩; rw [← EG.out] at hq11; have hq11' := hq11.below hb11; obtain ⟨A7, a7, A8, a8, rfl⟩ := hq11.slices; have b11 := bl_trans (Below.refl wr.heap.size wr).drew hb11; have ya := bl_cell b11 y0; have yb := bl_cell b11 y1; have yc := bl_cell b11 y2; have yd := bl_cell b11 y3; have yi := bl_cell b11 y4; have yj := bl_cell b11 y5; have yk := bl_cell b11 y6; have yl := bl_cell b11 y7; have hc1 := bl_cell b11 hc)
            | (go_at_call 34; (with_reducible refine (frac_Mul_calls _ _ qp qg _ (hqp.below b11) hq11' (by have := HSQ.out; omega)).mono ?_); rintro e w12 ⟨q12, v12, HQ12, hS12, rfl, hN12, hb12⟩; have hq12 := hN12.is; obtain ⟨A9, a9, A10, a10, rfl⟩ := hq12.slices; have b12 := bl_trans b11 hb12; have ye := bl_cell b12 y0; have yf := bl_cell b12 y1; have yg := bl_cell b12 y2; have yh := bl_cell b12 y3)
            | (go_at_call 38; (with_reducible refine (frac_Sub_calls _ _ q q12 _ (hq.is.below b12) hq12 (by have := HSQ.out; omega)).mono ?_); rintro e w13 ⟨q13, v13, HQ13, hS13, rfl, hN13, hb13⟩; have b13 := bl_trans b12 hb13; obtain ⟨v5, v6, rfl, ⟨r5, C5, m5, rfl, h5⟩, ⟨r6, C6, m6, rfl, h6⟩⟩ := hN13; have k13 := k1'.below b13; obtain ⟨⟨x0, n0⟩, ⟨x1, n1⟩, ⟨x2, n2⟩, ⟨x3, n3⟩, g0, g1', g2, g3⟩ := k13.cells))
          all_goals go_wp2
          all_goals (have s12 := b12.size)
          all_goals go_roundw
          all_goals (first
            | (refine ⟨k + 1, q13, C5, m5, C6, m6, by omega, by simp, k13.at4 _ _ _ _, NQ.mono (NQ.put4 ⟨_, _, rfl, ⟨r5, C5, m5, rfl, h5⟩, ⟨r6, C6, m6, rfl, h6⟩⟩ (by omega)) (by omega), Four.putO (k0'.below b13) (by omega) _ _ _ _, k13.put _ _ _ _, Lib.hid ?_, Nat.le_trans (Nat.le_trans hS13 (Nat.add_le_add_left hS12 _)) HSQ.out.2, bl_put4 (bl_trans hb b13) (by omega), by have := b13.size; simp; omega⟩
               rw [HQ13.out, HQ.out, canQ_val, HQ12.out, canQ_val, sumF_succ, ← HJ.out, HV.out]; congr 1; grind)
            | (simp [intOf]; omega))
        · obtain rfl : k = zs.length := by omega
          obtain ⟨⟨e0, m0⟩, ⟨e1, m1⟩, ⟨e2, m2⟩, ⟨e3, m3⟩, g0, g1', g2, g3⟩ := k0'.cells
          go_wp2
          exact bodyPost_ret (v := .agg #[.bool _, .slice _ _ _, .bool _, .slice _ _ _]) (by simp [results, Try.results39, go_sem, m0, m1, m2, m3]) rfl (postQ_put4 (n1 := w.heap.size + 2) hq (by rw [HQ.out]; rfl) (by
            have := Nat.mul_le_mul_right M (show 2 * (ys.length + zs.length) ≤ 48 by omega); omega) hb (by omega) (by omega))
end Go.Proofs.Ytnmmgegnioihmaa
