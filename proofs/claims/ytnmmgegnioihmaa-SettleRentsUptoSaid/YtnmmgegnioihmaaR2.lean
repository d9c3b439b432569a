/- SettleRents: the walk. -/
import Derived.Test.YtnmmgegnioihmaaR1
set_option linter.unusedVariables false
set_option linter.unusedSimpArgs false
namespace Go.Proofs.Ytnmmgegnioihmaa
open Go.RowKit

theorem sumF_congr {n : Nat} {f g : Nat → Rat} (h : ∀ k, k < n → f k = g k) : sumF n f = sumF n g := by
  induction n with
  | zero => rfl
  | succ n ih => rw [sumF_succ, sumF_succ, ih (fun k hk => h k (by omega)), h n (by omega)]
/-- what all are owed: the day-ahead injections at day-ahead prices, the deviations at real-time prices -/
theorem sumF_amt (xs : List Int) (P P' G G' : List Qr) (n : Nat) : sumF n (amt xs P P' G G') = sumF n (inj xs P G) + sumF n (inj xs P' G') - sumF n (inj xs P' G) := by
  induction n with
  | zero => simp only [sumF_zero]; grind
  | succ n ih =>
    simp only [sumF_succ, ih]
    unfold amt inj owedR
    grind
theorem sum_rows {l : List Qr} {n : Nat} {f : Nat → Rat} (hl : l.length = n) (h : ∀ k, k < n → (l.getD k zeroQ).val = f k) : sumV (l.map Qr.val) = sumF n f := by
  unfold sumF
  congr 1
  apply List.ext_getElem?
  intro j
  by_cases hj : j < n
  · have := h j hj
    rw [List.getD_eq_getElem?_getD, List.getElem?_eq_getElem (by omega)] at this
    rw [List.getElem?_map, List.getElem?_eq_getElem (by omega)]
    simp [hj] at this ⊢
    exact this
  · rw [List.getElem?_eq_none (by simp; omega), List.getElem?_eq_none (by simp; omega)]
theorem rents_eq {ys zs : List Int} {P Q G G' T T' : List Qr} {lx ly : List Qr} (hx : lx.length = ys.length) (hy : ly.length = zs.length) (hX : ∀ k, k < ys.length → (lx.getD k zeroQ).val = amt ys P Q G G' k) (hY : ∀ k, k < zs.length → (ly.getD k zeroQ).val = amt zs P Q T T' k) :
    sumV (ly.map Qr.val) - sumV (lx.map Qr.val) = -(inV ys zs P G T + (inV ys zs Q G' T' - inV ys zs Q G T)) := by
  rw [sum_rows hx hX, sum_rows hy hY, sumF_amt, sumF_amt]
  unfold inV
  grind
/-- long, of two markets -/
theorem long2 (X : World) (T : TypeId) (B1 B2 B3 B4 B5 B6 : Option Addr) (d1 d2 d3 d4 d5 d6 n : Nat) (l1 l2 l3 l4 l5 l6 : List Qr) (h1 : QRow X B1 d1 l1) (h2 : QRow X B2 d2 l2) (h3 : QRow X B3 d3 l3) (h4 : QRow X B4 d4 l4) (h5 : QRow X B5 d5 l5) (h6 : QRow X B6 d6 l6) (hn : n = X.heap.size) :
    Calls Try.prog 24 #[.slice (some ⟨n, 0, none⟩) 2 2] (X.alloc (.cells #[.slice B1 l1.length d1, .slice B2 l2.length d2, .slice B3 l3.length d3, .slice B4 l4.length d4, .slice B5 l5.length d5, .slice B6 l6.length d6] T)) fun e w' => ∃ b, e = .returned (.bool b) ∧ Below X.heap.size X w' := by
  subst hn
  refine (long36_calls _ 2 [(l1, l2, l3), (l4, l5, l6)] _ ⟨by simp, by unfold maxLen; omega, fun _ => ⟨X.heap.size, 0, rfl, fun j s hj => ?_⟩⟩ (by simp)).mono ?_
  · match j, hj with
    | 0, hj =>
      simp at hj; subst hj
      refine ⟨B1, d1, B2, d2, B3, d3, ?_, ?_, ?_, h1.below (bl_alloc _ _), h2.below (bl_alloc _ _), h3.below (bl_alloc _ _)⟩ <;> (rw [cell_of_row _ _ _ _ _ _ (heap_alloc_new X _)]; rfl)
    | 1, hj =>
      simp at hj; subst hj
      refine ⟨B4, d4, B5, d5, B6, d6, ?_, ?_, ?_, h4.below (bl_alloc _ _), h5.below (bl_alloc _ _), h6.below (bl_alloc _ _)⟩ <;> (rw [cell_of_row _ _ _ _ _ _ (heap_alloc_new X _)]; rfl)
  · rintro e w' ⟨b, he, hb⟩
    exact ⟨b, he, bl_trans (bl_alloc _ _) hb⟩
theorem Rest_len (A B : Option Addr) (c d n m : Nat) (l r : List Qr) (M : Nat) (w : World) (h : QRow w A c l) (h' : QRow w B d r) (hl : l.length = n) (hr : r.length = m) (hS : ∀ q ∈ l, q.S ≤ 5 * M + 3) (hS' : ∀ q ∈ r, q.S ≤ 5 * M + 3) (hn : n ≤ 12) (hm : m ≤ 12) (hM : M ≤ 1099511627) :
    Calls Try.prog 40 #[.slice A n c, .slice B m d] w (PostQ w (sumV (l.map Qr.val) - sumV (r.map Qr.val)) (2 + 24 * (5 * M + 3))) := by
  subst hl; subst hr
  have e1 := Nat.mul_le_mul_right (5 * M + 3) (show l.length + 1 ≤ 13 by omega)
  have e2 := Nat.mul_le_mul_right (5 * M + 3) (show r.length + 1 ≤ 13 by omega)
  have e3 := Nat.mul_le_mul_right (5 * M + 3) hn
  have e4 := Nat.mul_le_mul_right (5 * M + 3) hm
  refine (settle_Rest_calls A c l B d r (5 * M + 3) w h.isR h'.isR hS hS' (by omega) (by omega) (by omega) (by omega)).mono ?_
  rintro e w' ⟨q, v, HQ, hq, h⟩
  exact ⟨q, v, HQ, by omega, h⟩
set_option maxRecDepth 4000 in
set_option maxHeartbeats 8000000 in
theorem rents_calls (A1 A2 P1 G1 T1 Q1 U1 V1 : Option Addr) (c1 c2 p1 g1 t1 q1 u1 v1 : Nat) (us bs : List Int) (P G T Q U V : List Qr) (M : Nat) (w : World) (hu : Row enc64 w A1 c1 us) (hbs : Row enc64 w A2 c2 bs) (ru : ∀ x ∈ us, -9223372036854775808 ≤ x ∧ x ≤ 9223372036854775807) (rb : ∀ x ∈ bs, -9223372036854775808 ≤ x ∧ x ≤ 9223372036854775807)
    (hP : QRow w P1 p1 P) (hG : QRow w G1 g1 G) (hT : QRow w T1 t1 T) (hQ : QRow w Q1 q1 Q) (hU : QRow w U1 u1 U) (hV : QRow w V1 v1 V) (sP : ∀ q ∈ P, q.S ≤ M) (sG : ∀ q ∈ G, q.S ≤ M) (sT : ∀ q ∈ T, q.S ≤ M) (sQ : ∀ q ∈ Q, q.S ≤ M) (sU : ∀ q ∈ U, q.S ≤ M) (sV : ∀ q ∈ V, q.S ≤ M) (h1 : 1 ≤ M) (hM : M ≤ 1099511627) (hPl : P.length ≤ 1099511627776) :
    Calls Try.prog 6 #[.slice A1 us.length c1, .slice A2 bs.length c2, .agg #[.slice P1 P.length p1, .slice G1 G.length g1, .slice T1 T.length t1], .agg #[.slice Q1 Q.length q1, .slice U1 U.length u1, .slice V1 V.length v1]] w fun e w' => e = .returned (.bool true) ∧ Below w.heap.size w w' := by
  have HS := Lib.hid (And.intro sP (And.intro sG (And.intro sT (And.intro sQ (And.intro sU (And.intro sV (And.intro ru rb)))))))
  clear sP sG sT sQ sU sV ru rb
  have hmin := min_at P.length Q.length
  obtain ⟨n, hn⟩ : ∃ n, n = min P.length Q.length := ⟨_, rfl⟩
  have HN := Lib.hid hn
  rw [← hn] at hmin
  clear hn
  go_enter Try.func6, Try.ntmps6
  go_upto_region 2 with fail
  clear hmin
  generalize hw0 : World.alloc _ _ = w0
  have hb0 : Below w.heap.size w w0 := by subst hw0; exact bl_alloc2 (bl_alloc _ _) _
  have b1 : Thr w0 w.heap.size (.slice P1 P.length p1) (.slice G1 G.length g1) (.slice T1 T.length t1) := by subst hw0; exact (Thr.new w _ _ _ _).below (bl_alloc _ _)
  have b2 : Thr w0 (w.heap.size + 1) (.slice Q1 Q.length q1) (.slice U1 U.length u1) (.slice V1 V.length v1) := by subst hw0; refine ⟨?_, ?_, ?_⟩ <;> go_simp
  clear hw0
  obtain ⟨x0, x1, x2⟩ := b1
  obtain ⟨x3, x4, x5⟩ := b2
  by_cases hn0 : n = 0
  · subst hn0
    go_wp2_with (go_at_call 25; (with_reducible refine (awake36_calls _).mono ?_); rintro e w3 ⟨rfl, hb3⟩)
    go_ret
    exact ⟨rfl, bl_trans hb0 hb3⟩
  by_cases hul : 12 < us.length
  · go_wp2_with (go_at_call 25; (with_reducible refine (awake36_calls _).mono ?_); rintro e w3 ⟨rfl, hb3⟩)
    go_ret
    exact ⟨rfl, bl_trans hb0 hb3⟩
  by_cases hbl : 12 < bs.length
  · go_wp2_with (go_at_call 25; (with_reducible refine (awake36_calls _).mono ?_); rintro e w3 ⟨rfl, hb3⟩)
    go_ret
    exact ⟨rfl, bl_trans hb0 hb3⟩
  have hd0 : ((n : Int) == 0) = false := by simp; omega
  have hd1 : decide ((12 : Int) < (us.length : Int)) = false := by simp; omega
  have hd2 : decide ((12 : Int) < (bs.length : Int)) = false := by simp; omega
  go_upto_region 4 with (first
    | (go_at_call 25; (with_reducible refine (awake36_calls _).mono ?_); rintro e w3 ⟨rfl, hb3⟩)
    | (go_at_call 24; (with_reducible refine (long2 _ _ _ _ _ _ _ _ _ _ _ _ _ _ _ P G T Q U V (hP.below hb0) (hG.below hb0) (hT.below hb0) (hQ.below hb0) (hU.below hb0) (hV.below hb0) rfl).mono ?_); rintro e w1 ⟨b, rfl, hb1⟩; cases b))
  all_goals (try (exact bodyPost_ret (v := .bool true) (by simp [results, Try.results6, go_sem]) rfl ⟨rfl, bl_trans hb0 (bl_trans hb1 hb3)⟩))
  have n3 := bl_trans hb1 hb3
  have m3 := bl_trans hb0 n3
  have b3 : Thr w3 w.heap.size (.slice P1 P.length p1) (.slice G1 G.length g1) (.slice T1 T.length t1) := Thr.below ⟨x0, x1, x2⟩ n3
  have b4 : Thr w3 (w.heap.size + 1) (.slice Q1 Q.length q1) (.slice U1 U.length u1) (.slice V1 V.length v1) := Thr.below ⟨x3, x4, x5⟩ n3
  clear x0 x1 x2 x3 x4 x5 hd0 hd1 hd2
  go_upto_region 7 with (first
    | (go_at_call 28; have _h := hb6; (with_reducible refine (settle_Bids_calls B5 d5 zs P1 Q1 T1 V1 G1 U1 _ _ _ _ _ _ _ _ P Q T V M _ (hz.below hb6) (by have := hzl.out; omega) (hP.below m6) (hQ.below m6) (hT.below m6) (hV.below m6) HS.out.1 HS.out.2.2.2.1 HS.out.2.2.1 HS.out.2.2.2.2.2.1 h1 (by omega)).mono ?_); rintro e w7 h7; obtain ⟨ly, Y, yc, rfl, HY, hly, HSY, Ry, hb7⟩ := h7.okn (okAt_of hzr (by have := HN.out; omega) (by have := HN.out; omega)); replace hly := Lib.hid hly)
    | (go_at_call 27; (with_reducible refine (settle_Units_calls B4 d4 ys P1 Q1 G1 U1 T1 V1 _ _ _ _ _ _ _ _ P Q G U M _ (hy.below hb5) (by have := hyl.out; omega) (hP.below m5) (hQ.below m5) (hG.below m5) (hU.below m5) HS.out.1 HS.out.2.2.2.1 HS.out.2.1 HS.out.2.2.2.2.1 h1 (by omega)).mono ?_); rintro e w6 h6; obtain ⟨lx, X, xc, rfl, HX, hlx, HSX, Rx, hb6⟩ := h6.okn (okAt_of hyr (by have := HN.out; omega) (by have := HN.out; omega)); replace hlx := Lib.hid hlx; have m6 := bl_trans m5 hb6; obtain ⟨k0, k1, k2⟩ := b5.below hb6; obtain ⟨k3, k4, k5⟩ := b6.below hb6)
    | (go_at_call 32; have _h := hb4; (with_reducible refine (at36_calls A2 c2 bs n _ (hbs.below (bl_trans m3 hb4)) HS.out.2.2.2.2.2.2.2 (by omega) (by have := HN.out; omega) (by omega)).mono ?_); rintro e w5 ⟨zs, B5, d5, rfl, hzl, hzr, hz, hb5⟩; replace hzl := Lib.hid hzl; have m5 := bl_trans m3 (bl_trans hb4 hb5); have b5 := b3.below (bl_trans hb4 hb5); have b6 := b4.below (bl_trans hb4 hb5); obtain ⟨y0, y1, y2⟩ := id b5; obtain ⟨y3, y4, y5⟩ := id b6)
    | (go_at_call 32; (with_reducible refine (at36_calls A1 c1 us n _ (hu.below m3) HS.out.2.2.2.2.2.2.1 (by omega) (by have := HN.out; omega) (by omega)).mono ?_); rintro e w4 ⟨ys, B4, d4, rfl, hyl, hyr, hy, hb4⟩; replace hyl := Lib.hid hyl))
  have m7 := bl_trans m6 hb7
  have hyb : ys.length ≤ 12 := by have := hyl.out; omega
  have hzb : zs.length ≤ 12 := by have := hzl.out; omega
  have yrP : ∀ y ∈ ys, 0 ≤ y ∧ y < P.length := fun y hy => by have := hyr y hy; have := HN.out; omega
  have zrP : ∀ y ∈ zs, 0 ≤ y ∧ y < P.length := fun y hy => by have := hzr y hy; have := HN.out; omega
  have yrQ : ∀ y ∈ ys, 0 ≤ y ∧ y < Q.length := fun y hy => by have := hyr y hy; have := HN.out; omega
  have zrQ : ∀ y ∈ zs, 0 ≤ y ∧ y < Q.length := fun y hy => by have := hzr y hy; have := HN.out; omega
  replace hP := hP.below m7
  replace hG := hG.below m7
  replace hT := hT.below m7
  replace hQ := hQ.below m7
  replace hU := hU.below m7
  replace hV := hV.below m7
  replace hy := hy.below (bl_trans hb5 (bl_trans hb6 hb7))
  replace hz := hz.below (bl_trans hb6 hb7)
  replace Rx := Rx.below hb7
  obtain ⟨w0', w1', w2'⟩ : Thr w7 w.heap.size (.slice P1 P.length p1) (.slice G1 G.length g1) (.slice T1 T.length t1) := Thr.below ⟨k0, k1, k2⟩ hb7
  obtain ⟨w3', w4', w5'⟩ : Thr w7 (w.heap.size + 1) (.slice Q1 Q.length q1) (.slice U1 U.length u1) (.slice V1 V.length v1) := Thr.below ⟨k3, k4, k5⟩ hb7
  have HI := Lib.hid (rents_eq hlx.out hly.out HX.out HY.out)
  clear k0 k1 k2 k3 k4 k5 y0 y1 y2 y3 y4 y5 b3 b4 b5 b6 h6 h7 hu hbs hyr hzr m3 m5 m6 n3 hb0 hb1 hb3 hb4 hb5 hb6 hb7 _h
  go_upto_region 8 with (go_at_call 39; (with_reducible refine (in36_calls B4 B5 _ _ _ _ _ _ _ _ ys zs P G T M _ (hy.below (Below.refl _ _)) (hz.below (Below.refl _ _)) yrP zrP (hP.below (Below.refl _ _)) (hG.below (Below.refl _ _)) (hT.below (Below.refl _ _)) HS.out.1 HS.out.2.1 HS.out.2.2.1 h1 (by omega) hyb hzb).mono ?_); rintro e w8 ⟨z3, u3, HZ3, hT3, rfl, hV3, hb8⟩; have hz3 := hV3.is; obtain ⟨I3, i3, J3, j3, rfl⟩ := hz3.slices)
  have n8 : Below w7.heap.size w7 (w8.alloc (.cells #[.bool z3.n.neg, .slice I3 z3.n.ws.length i3, .bool z3.d.neg, .slice J3 z3.d.ws.length j3] 43)) := bl_trans hb8 (bl_alloc _ _)
  have t6 : BoxQ (w8.alloc (.cells #[.bool z3.n.neg, .slice I3 z3.n.ws.length i3, .bool z3.d.neg, .slice J3 z3.d.ws.length j3] 43)) w8.heap.size z3 I3 i3 J3 j3 := Box4.mk (fun h => h) (by refine ⟨?_, ?_, ?_, ?_⟩ <;> go_simp)
  replace hz3 := hz3.below (bl_alloc w8 (.cells #[.bool z3.n.neg, .slice I3 z3.n.ws.length i3, .bool z3.d.neg, .slice J3 z3.d.ws.length j3] 43))
  clear hV3 hb8
  generalize hw9 : World.alloc w8 _ = w9 at t6 n8 hz3 ⊢
  clear hw9
  generalize w8.heap.size = k16 at *
  have b3 := Thr.below ⟨w0', w1', w2'⟩ n8
  have b4 := Thr.below ⟨w3', w4', w5'⟩ n8
  clear w0' w1' w2' w3' w4' w5'
  have m9 := bl_trans m7 n8
  replace hP := hP.below n8
  replace hG := hG.below n8
  replace hT := hT.below n8
  replace hQ := hQ.below n8
  replace hU := hU.below n8
  replace hV := hV.below n8
  replace hy := hy.below n8
  replace hz := hz.below n8
  replace Rx := Rx.below n8
  replace Ry := Ry.below n8
  clear n8 m7
  have S3 : ∀ W, Fr w9 w9 (fun _ => False) W → Thr W w.heap.size (.slice P1 P.length p1) (.slice G1 G.length g1) (.slice T1 T.length t1) := fun W hW => b3.below hW.b
  have S4 : ∀ W, Fr w9 w9 (fun _ => False) W → Thr W (w.heap.size + 1) (.slice Q1 Q.length q1) (.slice U1 U.length u1) (.slice V1 V.length v1) := fun W hW => b4.below hW.b
  unfold Thr at S3 S4
  clear b3 b4
  go_cut [17] from 77 to 95 (fun t wx => CutQ w9 (inV ys zs Q U V - inV ys zs Q G T) (2 + 100 * M) t wx)
  case first =>
    have f00 : Fr w9 w9 (fun _ => False) w9 := Fr.start (Below.refl _ _)
    go_region_held3 (fun W => Fr w9 w9 (fun _ => False) W) (with_reducible (first | assumption | (refine Fr.set4 (Below.refl _ _) ?_ ?_; (focus (first | assumption)); (have := f12.size; have := f11.size; have := f10.size; first | omega | exact Nat.le_refl _ | (simp; omega))) | exact Fr.drew (by assumption) | exact Fr.call (by assumption) (by assumption) | exact Fr.call (by assumption) (bl_alloc _ _))) (first
      | (go_at_call 38; (with_reducible refine (frac_Sub_calls _ _ z1 z2 _ (hz1.below (by first | exact hb11 | exact bl_trans hb11 (bl_alloc _ _) | exact bl_trans (bl_alloc _ _) hb11)) (hz2.below (by first | exact Below.refl _ _ | exact bl_alloc _ _)) (by omega)).mono ?_); rintro e w12 ⟨q6, u6, HQ6, hS6, rfl, hN6, hb12⟩; have hq6 := hN6.is; obtain ⟨E1, e1, E2, e2, rfl⟩ := hq6.slices; have f12 := Fr.call (by assumption) hb12; rw [HZ1.out, HZ2.out, canQ_val, canQ_val] at HQ6; (try (refine absorb (A := Four (w9.heap.size) w12) ?_ ?_; (focus (refine Four.below ?_ hb12; ((repeat (first | (with_reducible exact Fb) | (with_reducible (refine Four.alloc _ _ _ _ _ ?_); first | rfl | (simp; done)) | (with_reducible refine Four.drew ?_) | (with_reducible refine Four.below ?_ (bl_alloc _ _)))); done))); intro Fd)); (try (refine absorb (A := Four (w10.heap.size) w12) ?_ ?_; (focus (refine Four.below ?_ hb12; ((repeat (first | (with_reducible exact Fc) | (with_reducible (refine Four.alloc _ _ _ _ _ ?_); first | rfl | (simp; done)) | (with_reducible refine Four.drew ?_) | (with_reducible refine Four.below ?_ (bl_alloc _ _)))); done))); intro Fe)); (try (refine absorb (A := Four (w11.heap.size) w12) ?_ ?_; (focus (refine Four.below ?_ hb12; ((repeat (first | (with_reducible (refine Four.alloc _ _ _ _ _ ?_); first | rfl | (simp; done)) | (with_reducible refine Four.drew ?_) | (with_reducible refine Four.below ?_ (bl_alloc _ _)))); done))); intro Ff)); (try (obtain ⟨_, _, _, _, _, _, _, _, _, _, _, _, _, _, _, _, _, _, _, _, _⟩ := Four.facts Fd; have := Nat.ne_of_lt (Four.lt Fd); have := Nat.ne_of_gt (Four.lt Fd))); (try (obtain ⟨_, _, _, _, _, _, _, _, _, _, _, _, _, _, _, _, _, _, _, _, _⟩ := Four.facts Fe; have := Nat.ne_of_lt (Four.lt Fe); have := Nat.ne_of_gt (Four.lt Fe))); (try (obtain ⟨_, _, _, _, _, _, _, _, _, _, _, _, _, _, _, _, _, _, _, _, _⟩ := Four.facts Ff; have := Nat.ne_of_lt (Four.lt Ff); have := Nat.ne_of_gt (Four.lt Ff))))
      | (go_at_call 39; have _h := hb10; (with_reducible refine (in36_calls B4 B5 _ _ _ _ _ _ _ _ ys zs Q G T M _ (hy.below (Fr.b (by assumption))) (hz.below (Fr.b (by assumption))) yrQ zrQ (hQ.below (Fr.b (by assumption))) (hG.below (Fr.b (by assumption))) (hT.below (Fr.b (by assumption))) HS.out.2.2.2.1 HS.out.2.1 HS.out.2.2.1 h1 (by omega) hyb hzb).mono ?_); rintro e w11 ⟨z2, u2, HZ2, hT2, rfl, hV2, hb11⟩; have hz2 := hV2.is; obtain ⟨I2, i2, J2, j2, rfl⟩ := hz2.slices; have f11 := Fr.call (by assumption) hb11; (try (refine absorb (A := Four (w9.heap.size) w11) ?_ ?_; (focus (refine Four.below ?_ hb11; ((repeat (first | (with_reducible exact Fa) | (with_reducible (refine Four.alloc _ _ _ _ _ ?_); first | rfl | (simp; done)) | (with_reducible refine Four.drew ?_) | (with_reducible refine Four.below ?_ (bl_alloc _ _)))); done))); intro Fb; have := Nat.ne_of_lt (Four.lt Fb); have := Nat.ne_of_gt (Four.lt Fb))); (try (refine absorb (A := Four (w10.heap.size) w11) ?_ ?_; (focus (refine Four.below ?_ hb11; ((repeat (first | (with_reducible (refine Four.alloc _ _ _ _ _ ?_); first | rfl | (simp; done)) | (with_reducible refine Four.drew ?_) | (with_reducible refine Four.below ?_ (bl_alloc _ _)))); done))); intro Fc; have := Nat.ne_of_lt (Four.lt Fc); have := Nat.ne_of_gt (Four.lt Fc))))
      | (go_at_call 39; (with_reducible refine (in36_calls B4 B5 _ _ _ _ _ _ _ _ ys zs Q U V M _ (hy.below (Fr.b (by assumption))) (hz.below (Fr.b (by assumption))) yrQ zrQ (hQ.below (Fr.b (by assumption))) (hU.below (Fr.b (by assumption))) (hV.below (Fr.b (by assumption))) HS.out.2.2.2.1 HS.out.2.2.2.2.1 HS.out.2.2.2.2.2.1 h1 (by omega) hyb hzb).mono ?_); rintro e w10 ⟨z1, u1, HZ1, hT1, rfl, hV1, hb10⟩; have hz1 := hV1.is; obtain ⟨I1, i1, J1, j1, rfl⟩ := hz1.slices; have f10 := Fr.call (by assumption) hb10; (try (refine absorb (A := Four (w9.heap.size) w10) ?_ ?_; (focus (refine Four.below ?_ hb10; ((repeat (first | (with_reducible (refine Four.alloc _ _ _ _ _ ?_); first | rfl | (simp; done)) | (with_reducible refine Four.drew ?_) | (with_reducible refine Four.below ?_ (bl_alloc _ _)))); done))); intro Fa; have := Nat.ne_of_lt (Four.lt Fa); have := Nat.ne_of_gt (Four.lt Fa)))))
    all_goals (go_wp2_with fail; go_meet)
    all_goals (have s10 := hb10.size; have s11 := hb11.size; have s12 := hb12.size; (try simp at s10); (try simp at s11); (try simp at s12))
    all_goals (refine ⟨_, q6, E1, e1, E2, e2, rfl, HQ6, by omega, And.intro ?_ (And.intro ?_ (And.intro ?_ ?_)), isQ_ag hN6 ?_, Fr.b (by assumption)⟩)
    all_goals (first | (intro k hk hor; (try simp at hor); (repeat' (first | (with_reducible rfl) | (with_reducible refine ag_set ?_ ?_) | (with_reducible refine ag_alloc ?_ ?_) | (with_reducible refine ag_drew ?_))); all_goals (first | omega | (simp; omega))) | go_simp)
  case rest =>
    obtain ⟨k17, q8, F3, f3, F4, f4, rfl, HQ8, hS8, y8, hq8, hbc⟩ := hcut
    have t8 : BoxQ wc k17 q8 F3 f3 F4 f4 := Box4.mk (fun h => h) y8
    replace t6 := t6.up hbc
    replace hz3 := hz3.below hbc
    replace Rx := Rx.below hbc
    replace Ry := Ry.below hbc
    replace m9 := bl_trans m9 hbc
    clear S3 S4 hP hG hT hQ hU hV hy hz hbc y8
    have f0 : Fr wc wc (fun _ => False) wc := Fr.start (Below.refl _ _)
    go_upto_region 9 with fail
    go_region_held3 (fun W => Fr wc wc (fun _ => False) W) (first | assumption | exact Fr.drew (by assumption) | exact Fr.call (by assumption) (by assumption)) (first
      | (go_at_call 33; (with_reducible refine (frac_Equal_calls _ _ z4 z6 _ (hz4.below (bl_trans hb14 hb15)) hz6 (by omega)).mono ?_); rintro e w16 ⟨rfl, hb16⟩; rw [decide_eq_true (by rw [HZ4.out, HZ6.out, HZ5.out, HZ3.out, HQ8.out]; simp only [canQ_val]; exact HI.out)]; have f16 := Fr.call (by assumption) hb16)
      | (go_at_call 41; (with_reducible refine (frac_Neg_calls _ z5 _ hz5 (by omega)).mono ?_); rintro e w15 ⟨z6, u6, HZ6, hT6, rfl, hV6, hb15⟩; have hz6 := hV6.is; obtain ⟨I6, i6, J6, j6, rfl⟩ := hz6.slices)
      | (go_at_call 37; (with_reducible refine (frac_Add_calls _ _ z3 q8 _ (hz3.below (Fr.b (by assumption))) (hq8.below (Fr.b (by assumption))) (by omega)).mono ?_); rintro e w14 ⟨z5, u5, HZ5, hT5, rfl, hV5, hb14⟩; have hz5 := hV5.is; obtain ⟨I5, i5, J5, j5, rfl⟩ := hz5.slices)
      | (go_at_call 40; (with_reducible refine (Rest_len _ _ _ _ _ _ ly lx M _ (Ry.below (Fr.b (by assumption))) (Rx.below (Fr.b (by assumption))) hly.out hlx.out HSY.out HSX.out hzb hyb (by omega)).mono ?_); rintro e w13 ⟨z4, u4, HZ4, hT4, rfl, hV4, hb13⟩; have hz4 := hV4.is; obtain ⟨I4, i4, J4, j4, rfl⟩ := hz4.slices))
    go_wp2
    exact bodyPost_ret (v := .bool true) (by simp [results, Try.results6, go_sem]) rfl ⟨rfl, bl_trans m9 f16.b⟩
end Go.Proofs.Ytnmmgegnioihmaa
