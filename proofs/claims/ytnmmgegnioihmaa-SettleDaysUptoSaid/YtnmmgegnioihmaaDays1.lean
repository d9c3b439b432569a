/- SettleDays: the walk. -/
import Derived.Test.YtnmmgegnioihmaaDays0
import Derived.Test.YtnmmgegnioihmaaPCA
set_option linter.unusedVariables false
set_option linter.unusedSimpArgs false
namespace Go.Proofs.Ytnmmgegnioihmaa
open Go.RowKit

theorem restOk {l r : List Qr} {M : Nat} (hl : l.length ≤ 40) (hr : r.length ≤ 40) (hM : M ≤ 16777216) : 8 * (2 + (l.length + 1) * M + (r.length + 1) * M) + 8 ≤ 35184372088832 := by
  have h1 : (l.length + 1) * M ≤ 41 * 16777216 := Nat.mul_le_mul (by omega) hM
  have h2 : (r.length + 1) * M ≤ 41 * 16777216 := Nat.mul_le_mul (by omega) hM
  omega
theorem restS {l r : List Qr} {M : Nat} (hl : l.length ≤ 40) (hr : r.length ≤ 40) (hM : M ≤ 16777216) : 2 + l.length * M + r.length * M ≤ 1400000000 := by
  have h1 : l.length * M ≤ 40 * 16777216 := Nat.mul_le_mul hl hM
  have h2 : r.length * M ≤ 40 * 16777216 := Nat.mul_le_mul hr hM
  omega
theorem sumL_len' {ls : List (List Qr)} {l : List Qr} (h : l = (sumL ls).map canQ) (hl : ∀ x ∈ ls, x.length ≤ 40) : l.length ≤ 40 := by
  rw [h, List.length_map]; exact sumL_len hl
theorem valsR_sum {l : List Qr} {xs : List Rat} (h : l = xs.map canQ) : valsR l = xs := by rw [h, valsR_can]
set_option maxHeartbeats 8000000 in
theorem settleDays_calls (A1 A2 A3 A4 : Option Addr) (c1 c2 c3 c4 : Nat) (a b c d : List Qr) (M : Nat) (w : World) (ha : QRow w A1 c1 a) (hb : QRow w A2 c2 b) (hc : QRow w A3 c3 c) (hd : QRow w A4 c4 d) (sa : ∀ q ∈ a, q.S ≤ M) (sb : ∀ q ∈ b, q.S ≤ M) (sc : ∀ q ∈ c, q.S ≤ M) (sd : ∀ q ∈ d, q.S ≤ M) (h1 : 1 ≤ M) (hM : M ≤ 1048576) :
    Calls Try.prog 9 #[.slice A1 a.length c1, .slice A2 b.length c2, .slice A3 c.length c3, .slice A4 d.length c4] w fun e w' => e = .returned (.bool true) ∧ Below w.heap.size w w' := by
  have HS := Lib.hid (And.intro sa (And.intro sb (And.intro sc (And.intro sd (And.intro h1 hM)))))
  clear sa sb sc sd h1 hM
  go_enter Try.func9, Try.ntmps9
  go_wp2_with (first
    | (go_at_call 26; (with_reducible refine (awake36_calls _).mono ?_); rintro e w2 ⟨rfl, hb2⟩)
    | (go_at_call 32; (with_reducible refine (LongR4 _ _ _ _ _ _ _ _ _ _ _ a b c d ha hb hc hd rfl).mono ?_); rintro e w1 ⟨bb, rfl, HLn, hb1⟩; cases bb))
  rotate_left
  · exact bodyPost_ret (v := .bool true) (by simp [results, Try.results9, go_sem]) rfl ⟨rfl, bl_trans hb1 hb2⟩
  have n2 := bl_trans hb1 hb2
  have H40 : Hid (a.length ≤ 40 ∧ b.length ≤ 40 ∧ c.length ≤ 40 ∧ d.length ≤ 40) := Lib.hid (HLn.out (by first | trivial | rfl))
  clear HLn hb1 hb2
  go_wp2_with (first
    | (go_at_call 38; (with_reducible refine (frac_Add_calls _ _ q5 q6 _ (hN5.is.below hb6) hN6.is (by have := restS H40.out.1 H40.out.2.1 (M := M) (by have := HS.out; omega); have := restS H40.out.2.2.1 H40.out.2.2.2 (M := M) (by have := HS.out; omega); omega)).mono ?_); rintro e w7 ⟨q7, u7, HQ7, hS7, rfl, hN7, hb7⟩; have hq7 := hN7.is; obtain ⟨E1, e1, E2, e2, rfl⟩ := hq7.slices)
    | (go_at_call 41; have _h := hb5; (with_reducible refine (settle_Rest_calls A3 c3 c A4 c4 d M _ (hc.below (bl_trans n4 hb5)).isR (hd.below (bl_trans n4 hb5)).isR HS.out.2.2.1 HS.out.2.2.2.1 HS.out.2.2.2.2.1 (by have := H40.out; omega) (by have := H40.out; omega) (restOk H40.out.2.2.1 H40.out.2.2.2 (by have := HS.out; omega))).mono ?_); rintro e w6 ⟨q6, u6, HQ6, hS6, rfl, hN6, hb6⟩)
    | (go_at_call 41; have _h := n4; (with_reducible refine (settle_Rest_calls A1 c1 a A2 c2 b M _ (ha.below n4).isR (hb.below n4).isR HS.out.1 HS.out.2.1 HS.out.2.2.2.2.1 (by have := H40.out; omega) (by have := H40.out; omega) (restOk H40.out.1 H40.out.2.1 (by have := HS.out; omega))).mono ?_); rintro e w5 ⟨q5, u5, HQ5, hS5, rfl, hN5, hb5⟩)
    | (go_at_call 44; have _h := hb3; (with_reducible refine (Day3 _ _ _ _ _ _ _ _ _ _ _ _ c a b M (hc.below (bl_trans n2 hb3)) (ha.below (bl_trans n2 hb3)) (hb.below (bl_trans n2 hb3)) rfl rfl rfl rfl (by have := H40.out; omega) (by have := H40.out; omega) (by have := H40.out; omega) HS.out.2.2.1 HS.out.1 HS.out.2.1 HS.out.2.2.2.2.1 (by have := HS.out; omega)).mono ?_); rintro e w4 ⟨l4, v4, HL4, hS4, rfl, hO4, hb4⟩; obtain ⟨O4, o4, rfl, _⟩ := hO4.form; have n4 := bl_trans n2 (bl_trans hb3 hb4))
    | (go_at_call 44; (with_reducible refine (Day3 _ _ _ _ _ _ _ _ _ _ _ _ a b c M (ha.below n2) (hb.below n2) (hc.below n2) rfl rfl rfl rfl (by have := H40.out; omega) (by have := H40.out; omega) (by have := H40.out; omega) HS.out.1 HS.out.2.1 HS.out.2.2.1 HS.out.2.2.2.2.1 (by have := HS.out; omega)).mono ?_); rintro e w3 ⟨l3, v3, HL3, hS3, rfl, hO3, hb3⟩; obtain ⟨O3, o3, rfl, _⟩ := hO3.form))
  have s3 : ∀ q ∈ l3, q.S ≤ 16777216 := fun q hq => Nat.le_trans (hS3 q hq) (by have := HS.out; omega)
  have s4 : ∀ q ∈ l4, q.S ≤ 16777216 := fun q hq => Nat.le_trans (hS4 q hq) (by have := HS.out; omega)
  have S34 := Lib.hid (And.intro s3 s4)
  have n7 := bl_trans n4 (bl_trans hb5 (bl_trans hb6 hb7))
  have r3 : QRow w7 O3 o3 l3 := (hO3.isR.row.2).below (bl_trans hb4 (bl_trans hb5 (bl_trans hb6 hb7)))
  have r4 : QRow w7 O4 o4 l4 := (hO4.isR.row.2).below (bl_trans hb5 (bl_trans hb6 hb7))
  have V34 : Hid (valsR l3 = valsR l4) := Lib.hid (by rw [HL3.out, HL4.out, valsR_can, valsR_can]; exact (days_turn a b c).symm)
  have v7 : Hid (q7.val = (sumV (valsR a) - sumV (valsR b)) + (sumV (valsR c) - sumV (valsR d))) := Lib.hid (by rw [HQ7.out, canQ_val, HQ5.out, HQ6.out, canQ_val, canQ_val]; rfl)
  have S7 : Hid (q7.S ≤ 2800000000) := Lib.hid (by have := restS H40.out.1 H40.out.2.1 (M := M) (by have := HS.out; omega); have := restS H40.out.2.2.1 H40.out.2.2.2 (M := M) (by have := HS.out; omega); omega)
  generalize hw8 : World.alloc w7 _ = w8
  have hb8 : Below w7.heap.size w7 w8 := by subst hw8; exact bl_alloc _ _
  have t7 : BoxQ w8 w7.heap.size q7 E1 e1 E2 e2 := Box4.mk (fun h => h) (by subst hw8; refine ⟨?_, ?_, ?_, ?_⟩ <;> go_simp)
  replace hq7 := hq7.below hb8
  replace r3 := r3.below hb8
  replace r4 := r4.below hb8
  have n8 := bl_trans n7 hb8
  have ra := ha.below n8
  have rb := hb.below n8
  have rc := hc.below n8
  have rd := hd.below n8
  have f0 : Fr w8 w8 (fun _ => False) w8 := Fr.start (Below.refl _ _)
  clear hw8 hS3 hS4 s3 s4 hb3 hb4 hb5 hb6 hb7 hb8 _h hO3 hO4 hN5 hN6 hN7 HQ5 HQ6 HQ7 hS5 hS6 hS7 n2 n4 n7
  go_region_held3 (fun W => Fr w8 w8 (fun _ => False) W) (first | assumption | exact Fr.drew (by assumption) | exact Fr.call (by assumption) (by assumption) | exact Fr.call (by assumption) (bl_alloc _ _)) (first
    | (go_at_call 34; (with_reducible refine (frac_Equal_calls _ _ q13 q7 _ hN13.is (hq7.below (Fr.b (by assumption))) (by have := S7.out; have := restS L11.out L12.out (M := 4 * M) (by have := HS.out; omega); omega)).mono ?_); rintro e w14 ⟨rfl, hb14⟩; rw [decide_eq_true (by rw [HQ13.out, canQ_val, v7.out]; show sumV (valsR l11) - sumV (valsR l12) = _; rw [HL11.out, HL12.out, valsR_can, valsR_can, days_rest])]; have f14 := Fr.call (by assumption) hb14)
    | (go_at_call 41; have _h := hb12; (with_reducible refine (settle_Rest_calls O11 o11 l11 O12 o12 l12 (4 * M) _ (hO11.isR.row.2.below (by assumption)).isR (hO12.isR.row.2.below (Below.refl _ _)).isR hS11 hS12 (by have := HS.out; omega) (by have := L11.out; omega) (by have := L12.out; omega) (restOk L11.out L12.out (by have := HS.out; omega))).mono ?_); rintro e w13 ⟨q13, u13, HQ13, hS13, rfl, hN13, hb13⟩; have f13 := Fr.call (by assumption) hb13)
    | (go_at_call 44; have _h := hb11; (with_reducible refine (Day2 _ _ _ _ _ _ _ _ _ b d M (rb.below (Fr.b (by assumption))) (rd.below (Fr.b (by assumption))) rfl rfl (by simp) (by have := H40.out; omega) (by have := H40.out; omega) HS.out.2.1 HS.out.2.2.2.1 HS.out.2.2.2.2.1 (by have := HS.out; omega)).mono ?_); rintro e w12 ⟨l12, x12, HL12, hS12, rfl, hO12, hb12⟩; obtain ⟨O12, o12, rfl, _⟩ := hO12.form; have f12 := Fr.call (by assumption) hb12; have L12 : Hid (l12.length ≤ 40) := Lib.hid (sumL_len' HL12.out (fun x hx => by have := H40.out; simp at hx; rcases hx with rfl | rfl <;> omega)))
    | (go_at_call 44; have _h := hb11; (with_reducible refine (DayW2 _ _ b d M (LRow.below (litR2 _ _ _ _ _ _ _ _ _ b d (rb.below (bl_trans (Fr.b f15) (bl_alloc _ _))) (rd.below (bl_trans (Fr.b f15) (bl_alloc _ _))) rfl rfl (by simp)) hb11) (by have := H40.out; omega) (by have := H40.out; omega) HS.out.2.1 HS.out.2.2.2.1 HS.out.2.2.2.2.1 (by have := HS.out; omega)).mono ?_); rintro e w12 ⟨l12, x12, HL12, hS12, rfl, hO12, hb12⟩; obtain ⟨O12, o12, rfl, _⟩ := hO12.form; have f12 := Fr.call (by assumption) hb12; have L12 : Hid (l12.length ≤ 40) := Lib.hid (sumL_len' HL12.out (fun x hx => by have := H40.out; simp at hx; rcases hx with rfl | rfl <;> omega)))
    | (go_at_call 44; have _h := hb11; (with_reducible refine (DayW2 _ _ b d M (LRow.below (litR2 _ _ _ _ _ _ _ _ _ b d (rb.below (Fr.b f15)) (rd.below (Fr.b f15)) rfl rfl (by simp)) hb11) (by have := H40.out; omega) (by have := H40.out; omega) HS.out.2.1 HS.out.2.2.2.1 HS.out.2.2.2.2.1 (by have := HS.out; omega)).mono ?_); rintro e w12 ⟨l12, x12, HL12, hS12, rfl, hO12, hb12⟩; obtain ⟨O12, o12, rfl, _⟩ := hO12.form; have f12 := Fr.call (by assumption) hb12; have L12 : Hid (l12.length ≤ 40) := Lib.hid (sumL_len' HL12.out (fun x hx => by have := H40.out; simp at hx; rcases hx with rfl | rfl <;> omega)))
    | (go_at_call 44; have _h := hb11; (with_reducible refine (DayW2 _ _ b d M (LRow.below (LRow.below (litR2 _ _ _ _ _ _ _ _ _ b d (rb.below (Fr.b f15)) (rd.below (Fr.b f15)) rfl rfl (by simp)) (bl_alloc _ _)) hb11) (by have := H40.out; omega) (by have := H40.out; omega) HS.out.2.1 HS.out.2.2.2.1 HS.out.2.2.2.2.1 (by have := HS.out; omega)).mono ?_); rintro e w12 ⟨l12, x12, HL12, hS12, rfl, hO12, hb12⟩; obtain ⟨O12, o12, rfl, _⟩ := hO12.form; have f12 := Fr.call (by assumption) hb12; have L12 : Hid (l12.length ≤ 40) := Lib.hid (sumL_len' HL12.out (fun x hx => by have := H40.out; simp at hx; rcases hx with rfl | rfl <;> omega)))
    | (go_at_call 44; have _h := hb10; (with_reducible refine (Day2 _ _ _ _ _ _ _ _ _ a c M (ra.below (Fr.b f15)) (rc.below (Fr.b f15)) rfl rfl (by simp) (by have := H40.out; omega) (by have := H40.out; omega) HS.out.1 HS.out.2.2.1 HS.out.2.2.2.2.1 (by have := HS.out; omega)).mono ?_); rintro e w11 ⟨l11, x11, HL11, hS11, rfl, hO11, hb11⟩; obtain ⟨O11, o11, rfl, _⟩ := hO11.form; have f11 := Fr.call (by assumption) hb11; have L11 : Hid (l11.length ≤ 40) := Lib.hid (sumL_len' HL11.out (fun x hx => by have := H40.out; simp at hx; rcases hx with rfl | rfl <;> omega)))
    | (go_at_call 44; have _h := hb10; (with_reducible refine (Day2 _ _ _ _ _ _ _ _ _ a c M (ra.below (bl_trans (Fr.b f15) (bl_alloc _ _))) (rc.below (bl_trans (Fr.b f15) (bl_alloc _ _))) rfl rfl (by simp) (by have := H40.out; omega) (by have := H40.out; omega) HS.out.1 HS.out.2.2.1 HS.out.2.2.2.2.1 (by have := HS.out; omega)).mono ?_); rintro e w11 ⟨l11, x11, HL11, hS11, rfl, hO11, hb11⟩; obtain ⟨O11, o11, rfl, _⟩ := hO11.form; have f11 := Fr.call (Fr.call f15 (bl_alloc _ _)) hb11; have L11 : Hid (l11.length ≤ 40) := Lib.hid (sumL_len' HL11.out (fun x hx => by have := H40.out; simp at hx; rcases hx with rfl | rfl <;> omega)))
    | (go_at_call 44; have _h := hb10; (with_reducible refine (DayW2 _ _ a c M (LRow.below (litR2 _ _ _ _ _ _ _ _ _ a c (ra.below (Fr.b (by assumption))) (rc.below (Fr.b (by assumption))) rfl rfl (by simp)) (bl_alloc _ _)) (by have := H40.out; omega) (by have := H40.out; omega) HS.out.1 HS.out.2.2.1 HS.out.2.2.2.2.1 (by have := HS.out; omega)).mono ?_); rintro e w11 ⟨l11, x11, HL11, hS11, rfl, hO11, hb11⟩; obtain ⟨O11, o11, rfl, _⟩ := hO11.form; have f11 := Fr.call (by assumption) hb11; have L11 : Hid (l11.length ≤ 40) := Lib.hid (sumL_len' HL11.out (fun x hx => by have := H40.out; simp at hx; rcases hx with rfl | rfl <;> omega)))
    | (go_at_call 46; have _h := hb10; (with_reducible refine (SameRow_calls O10 O3 o10 o3 l10 l3 16777216 _ (hO10.isR.row.2) (r3.below (Fr.b (by assumption))) (by rw [HL10.out, HL3.out, valsR_can, valsR_can, HL9.out, days_nest]) (fun q hq => Nat.le_trans (hS10 q hq) (by have := HS.out; omega)) S34.out.1 (by omega) (by omega)).mono ?_); rintro e w15 ⟨rfl, hb15⟩; have f15 := Fr.call (by assumption) hb15)
    | (go_at_call 44; have _h := hb9; (with_reducible refine (Day2 _ _ _ _ _ _ _ _ _ l9 c (4 * M) (hO9.isR.row.2) (rc.below (Fr.b (by assumption))) rfl rfl rfl (by have := L9.out; omega) (by have := H40.out; omega) hS9 (fun q hq => Nat.le_trans (HS.out.2.2.1 q hq) (by omega)) (by have := HS.out; omega) (by have := HS.out; omega)).mono ?_); rintro e w10 ⟨l10, x10, HL10, hS10, rfl, hO10, hb10⟩; obtain ⟨O10, o10, rfl, _⟩ := hO10.form; have f10 := Fr.call (by assumption) hb10)
    | (go_at_call 44; have _h := hb16; (with_reducible refine (Day2 _ _ _ _ _ _ _ _ _ a b M (ra.below (Fr.b (by assumption))) (rb.below (Fr.b (by assumption))) rfl rfl rfl (by have := H40.out; omega) (by have := H40.out; omega) HS.out.1 HS.out.2.1 HS.out.2.2.2.2.1 (by have := HS.out; omega)).mono ?_); rintro e w9 ⟨l9, x9, HL9, hS9, rfl, hO9, hb9⟩; obtain ⟨O9, o9, rfl, _⟩ := hO9.form; have f9 := Fr.call (by assumption) hb9; have L9 : Hid (l9.length ≤ 40) := Lib.hid (sumL_len' HL9.out (fun x hx => by have := H40.out; simp at hx; rcases hx with rfl | rfl <;> omega)))
    | (go_at_call 46; (with_reducible refine (SameRow_calls O3 O4 o3 o4 l3 l4 16777216 _ (r3.below (Fr.b (by assumption))) (r4.below (Fr.b (by assumption))) V34.out S34.out.1 S34.out.2 (by omega) (by omega)).mono ?_); rintro e w16 ⟨rfl, hb16⟩; have f16 := Fr.call (by assumption) hb16))
  all_goals
    go_wp2
    go_ret
    exact ⟨rfl, bl_trans n8 f14.b⟩
end Go.Proofs.Ytnmmgegnioihmaa
