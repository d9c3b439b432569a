/- SettleMatches: the walk. -/
import Derived.Test.YtnmmgegnioihmaaRef20
import Derived.Test.YtnmmgegnioihmaaSpoil
import Derived.Test.YtnmmgegnioihmaaLawA
set_option linter.unusedVariables false
set_option linter.unusedSimpArgs false
namespace Go.Proofs.Ytnmmgegnioihmaa
open Go.RowKit

/-- long, of two markets -/
theorem long2m (X : World) (T : TypeId) (B1 B2 B3 B4 B5 B6 : Option Addr) (d1 d2 d3 d4 d5 d6 n : Nat) (l1 l2 l3 l4 l5 l6 : List Qr) (h1 : QRow X B1 d1 l1) (h2 : QRow X B2 d2 l2) (h3 : QRow X B3 d3 l3) (h4 : QRow X B4 d4 l4) (h5 : QRow X B5 d5 l5) (h6 : QRow X B6 d6 l6) (hn : n = X.heap.size) :
    Calls Try.prog 25 #[.slice (some ⟨n, 0, none⟩) 2 2] (X.alloc (.cells #[.slice B1 l1.length d1, .slice B2 l2.length d2, .slice B3 l3.length d3, .slice B4 l4.length d4, .slice B5 l5.length d5, .slice B6 l6.length d6] T)) fun e w' => ∃ b, e = .returned (.bool b) ∧ Below X.heap.size X w' := by
  subst hn
  refine (long36_calls _ 2 [(l1, l2, l3), (l4, l5, l6)] _ ⟨by simp, by unfold maxLen; omega, fun _ => ⟨X.heap.size, 0, rfl, fun j s hj => ?_⟩⟩ (by simp)).mono ?_
  · match j, hj with
    | 0, hj =>
      simp at hj; subst hj
      refine ⟨B1, d1, B2, d2, B3, d3, ?_, ?_, ?_, h1.below (bl_alloc _ _), h2.below (bl_alloc _ _), h3.below (bl_alloc _ _)⟩ <;> (rw [cell_of_row _ _ _ _ _ _ (heap_alloc_new X _)]; rfl)
    | 1, hj =>
      simp at hj; subst hj
      refine ⟨B4, d4, B5, d5, B6, d6, ?_, ?_, ?_, h4.below (bl_alloc _ _), h5.below (bl_alloc _ _), h6.below (bl_alloc _ _)⟩ <;> (rw [cell_of_row _ _ _ _ _ _ (heap_alloc_new X _)]; rfl)
  · rintro e w' ⟨b, he, hb⟩
    exact ⟨b, he, bl_trans (bl_alloc _ _) hb⟩
open Classical in
/-- what Units, Bids and the reference return -/
noncomputable def outL (xs : List Int) (P P' G G' : List Qr) : List Qr := if OkAt xs P.length P'.length then (amts xs P P' G G' xs.length).map canQ else []
open Classical in
noncomputable def outE (xs : List Int) (P P' : List Qr) : Int := if OkAt xs P.length P'.length then 0 else 1
theorem PostAll.own {w w' : World} {xs : List Int} {P P' G G' l : List Qr} {M : Nat} {c : Int} {e : Ending} (h : PostAll w xs P P' G G' M e w') (hl : Hid (l = outL xs P P' G G')) (hc : Hid (c = outE xs P P')) :
    ∃ A d, e = .returned (.tuple #[.slice A l.length d, .int .i64 c]) ∧ OwnQ w.heap.size w' (.slice A l.length d) l ∧ (∀ q ∈ l, q.S ≤ M) ∧ Below w.heap.size w w' := by
  obtain ⟨v, c', rfl, hb, h⟩ := h
  have hl := hl.out
  have hc := hc.out
  rcases h with ⟨hok, rfl, l', HL, hS, hO⟩ | ⟨hn, rfl, rfl⟩
  · unfold outL at hl
    unfold outE at hc
    rw [if_pos hok] at hl hc
    have e : l = l' := by rw [hl, HL.out]
    subst e; subst hc
    obtain ⟨A, d, rfl, _⟩ := hO.form
    exact ⟨A, d, rfl, hO, hS, hb⟩
  · unfold outL at hl
    unfold outE at hc
    rw [if_neg hn] at hl hc
    subst hl; subst hc
    exact ⟨none, 0, rfl, OwnQ.nil _ _, (fun q hq => by cases hq), hb⟩
set_option maxRecDepth 8000 in
set_option maxHeartbeats 8000000 in
theorem match_calls (A1 A2 P1 G1 T1 Q1 U1 V1 : Option Addr) (c1 c2 p1 g1 t1 q1 u1 v1 : Nat) (us bs : List Int) (P G T Q U V : List Qr) (M : Nat) (w : World) (hu : Row enc64 w A1 c1 us) (hbs : Row enc64 w A2 c2 bs)
    (hP : QRow w P1 p1 P) (hG : QRow w G1 g1 G) (hT : QRow w T1 t1 T) (hQ : QRow w Q1 q1 Q) (hU : QRow w U1 u1 U) (hV : QRow w V1 v1 V) (sP : ∀ q ∈ P, q.S ≤ M) (sG : ∀ q ∈ G, q.S ≤ M) (sT : ∀ q ∈ T, q.S ≤ M) (sQ : ∀ q ∈ Q, q.S ≤ M) (sU : ∀ q ∈ U, q.S ≤ M) (sV : ∀ q ∈ V, q.S ≤ M) (h1 : 1 ≤ M) (hM : M ≤ 16777216) :
    Calls Try.prog 3 #[.slice A1 us.length c1, .slice A2 bs.length c2, .agg #[.slice P1 P.length p1, .slice G1 G.length g1, .slice T1 T.length t1], .agg #[.slice Q1 Q.length q1, .slice U1 U.length u1, .slice V1 V.length v1]] w fun e w' => e = .returned (.bool true) ∧ Below w.heap.size w w' := by
  have HS := Lib.hid (And.intro sP (And.intro sG (And.intro sT (And.intro sQ (And.intro sU sV)))))
  have HM := Lib.hid (And.intro h1 hM)
  clear sP sG sT sQ sU sV h1 hM
  obtain ⟨la, hla⟩ : ∃ l, l = outL us P Q G U := ⟨_, rfl⟩
  obtain ⟨lb, hlb⟩ : ∃ l, l = outL bs P Q T V := ⟨_, rfl⟩
  obtain ⟨ea, hea⟩ : ∃ c, c = outE us P Q := ⟨_, rfl⟩
  obtain ⟨eb, heb⟩ : ∃ c, c = outE bs P Q := ⟨_, rfl⟩
  replace hla := Lib.hid hla
  replace hlb := Lib.hid hlb
  replace hea := Lib.hid hea
  replace heb := Lib.hid heb
  have hda : (ea != ea) = false := by simp
  have hdb : (eb != eb) = false := by simp
  go_enter Try.func3, Try.ntmps3
  by_cases hul : 30 < us.length
  · go_wp2_with (go_at_call 26; (with_reducible refine (awake36_calls _).mono ?_); rintro e w3 ⟨rfl, hb3⟩)
    go_ret
    exact ⟨rfl, bl_trans (bl_alloc2 (bl_alloc _ _) _) hb3⟩
  by_cases hbl : 30 < bs.length
  · go_wp2_with (go_at_call 26; (with_reducible refine (awake36_calls _).mono ?_); rintro e w3 ⟨rfl, hb3⟩)
    go_ret
    exact ⟨rfl, bl_trans (bl_alloc2 (bl_alloc _ _) _) hb3⟩
  have hd1 : decide ((30 : Int) < (us.length : Int)) = false := by simp; omega
  have hd2 : decide ((30 : Int) < (bs.length : Int)) = false := by simp; omega
  go_upto_region 1 with fail
  generalize hw0 : World.alloc _ _ = w0
  have hb0 : Below w.heap.size w w0 := by subst hw0; exact bl_alloc2 (bl_alloc _ _) _
  have b1 : Thr w0 w.heap.size (.slice P1 P.length p1) (.slice G1 G.length g1) (.slice T1 T.length t1) := by subst hw0; exact (Thr.new w _ _ _ _).below (bl_alloc _ _)
  have b2 : Thr w0 (w.heap.size + 1) (.slice Q1 Q.length q1) (.slice U1 U.length u1) (.slice V1 V.length v1) := by subst hw0; refine ⟨?_, ?_, ?_⟩ <;> go_simp
  clear hw0
  obtain ⟨x0, x1, x2⟩ := b1
  obtain ⟨x3, x4, x5⟩ := b2
  go_upto_region 3 with (first
    | (go_at_call 26; (with_reducible refine (awake36_calls _).mono ?_); rintro e w3 ⟨rfl, hb3⟩)
    | (go_at_call 25; (with_reducible refine (long2m _ _ _ _ _ _ _ _ _ _ _ _ _ _ _ P G T Q U V (hP.below hb0) (hG.below hb0) (hT.below hb0) (hQ.below hb0) (hU.below hb0) (hV.below hb0) rfl).mono ?_); rintro e w1 ⟨b, rfl, hb1⟩; cases b))
  all_goals (try (exact bodyPost_ret (v := .bool true) (by simp [results, Try.results3, go_sem]) rfl ⟨rfl, bl_trans hb0 (bl_trans hb1 hb3)⟩))
  have m3 := bl_trans hb0 hb1
  have b3 : Thr w1 w.heap.size (.slice P1 P.length p1) (.slice G1 G.length g1) (.slice T1 T.length t1) := Thr.below ⟨x0, x1, x2⟩ hb1
  have b4 : Thr w1 (w.heap.size + 1) (.slice Q1 Q.length q1) (.slice U1 U.length u1) (.slice V1 V.length v1) := Thr.below ⟨x3, x4, x5⟩ hb1
  clear x0 x1 x2 x3 x4 x5 hd1 hd2
  have b3' := b3
  have b4' := b4
  obtain ⟨y0, y1, y2⟩ := b3'
  obtain ⟨y3, y4, y5⟩ := b4'
  go_upto_region 6 with (first
    | (go_at_call 27; (with_reducible refine (hAll_calls A1 c1 us P1 Q1 G1 U1 _ _ _ _ P Q G U M _ (hu.below m3) (by omega) (hP.below m3) (hQ.below m3) (hG.below m3) (hU.below m3) HS.out.1 HS.out.2.2.2.1 HS.out.2.1 HS.out.2.2.2.2.1 HM.out.1 HM.out.2).mono ?_); rintro e w4 h4; obtain ⟨X4, x4, rfl, hO4, hS4, hb4⟩ := h4.own hla hea; have HS4 := Lib.hid hS4; clear hS4 h4; obtain ⟨z0, z1, z2⟩ := b3.below hb4; obtain ⟨z3, z4, z5⟩ := b4.below hb4; have m4 := bl_trans m3 hb4)
    | (go_at_call 27; (with_reducible refine (hAll_calls A2 c2 bs P1 Q1 T1 V1 _ _ _ _ P Q T V M _ (hbs.below m4) (by omega) (hP.below m4) (hQ.below m4) (hT.below m4) (hV.below m4) HS.out.1 HS.out.2.2.2.1 HS.out.2.2.1 HS.out.2.2.2.2.2 HM.out.1 HM.out.2).mono ?_); rintro e w5 h5; obtain ⟨X5, x5, rfl, hO5, hS5, hb5⟩ := h5.own hlb heb; have HS5 := Lib.hid hS5; clear hS5 h5))
  have m5 := bl_trans m4 hb5
  have r4 := (hO4.isR.row.2).below hb5
  have r5 := hO5.isR.row.2
  replace b3 := b3.below (bl_trans hb4 hb5)
  replace b4 := b4.below (bl_trans hb4 hb5)
  replace hu := hu.below m5
  replace hbs := hbs.below m5
  replace hP := hP.below m5
  replace hG := hG.below m5
  replace hT := hT.below m5
  replace hQ := hQ.below m5
  replace hU := hU.below m5
  replace hV := hV.below m5
  clear y0 y1 y2 y3 y4 y5 z0 z1 z2 z3 z4 z5 hO4 hO5 hb4 hb5 m3 m4 hb0 hb1
  go_loopw [13] (fun i wr => ∃ k : Nat, k ≤ 2 ∧ i = .int .i64 k ∧ Below w5.heap.size w5 wr) (fun i _ => 2 - (intOf i).toNat)
  case atStart => exact ⟨0, by omega, rfl, Below.refl _ _⟩
  case round =>
    obtain ⟨k, hk, rfl, hb⟩ := hrel
    by_cases hlt : k < 2
    · obtain ⟨y0, y1, y2⟩ := b3.below hb
      obtain ⟨y3, y4, y5⟩ := b4.below hb
      go_upto_region 10 with (first
        | (go_at_call 28; (with_reducible refine (settle_Units_calls A1 c1 us P1 Q1 G1 U1 T1 V1 _ _ _ _ _ _ _ _ P Q G U M _ (hu.below hb) (by omega) (hP.below hb) (hQ.below hb) (hG.below hb) (hU.below hb) HS.out.1 HS.out.2.2.2.1 HS.out.2.1 HS.out.2.2.2.2.1 HM.out.1 (by have := HM.out.2; omega)).mono ?_); rintro e w6 h6; obtain ⟨X6, x6, rfl, hO6, hS6, hb6⟩ := h6.own hla hea; clear hS6 h6; obtain ⟨z0, z1, z2⟩ := b3.below (bl_trans hb hb6); obtain ⟨z3, z4, z5⟩ := b4.below (bl_trans hb hb6); have m6 := bl_trans hb hb6)
        | (go_at_call 29; (with_reducible refine (settle_Bids_calls A2 c2 bs P1 Q1 T1 V1 G1 U1 _ _ _ _ _ _ _ _ P Q T V M _ (hbs.below m6) (by omega) (hP.below m6) (hQ.below m6) (hT.below m6) (hV.below m6) HS.out.1 HS.out.2.2.2.1 HS.out.2.2.1 HS.out.2.2.2.2.2 HM.out.1 (by have := HM.out.2; omega)).mono ?_); rintro e w7 h7; obtain ⟨X7, x7, rfl, hO7, hS7, hb7⟩ := h7.own hlb heb; clear hS7 h7))
      have m7 := bl_trans m6 hb7
      have r6 := (hO6.isR.row.2).below hb7
      have r7 := hO7.isR.row.2
      clear y0 y1 y2 y3 y4 y5 z0 z1 z2 z3 z4 z5
      go_wp2_with (first
        | (go_at_call 30; (with_reducible refine (IsRow_calls X6 X4 x6 x4 la (5 * M + 1) w7 r6 (r4.below m7) HS4.out (by omega) (by have := HM.out.2; omega)).mono ?_); rintro e w8 ⟨rfl, hb8⟩)
        | (go_at_call 30; (with_reducible refine (IsRow_calls X7 X5 x7 x5 lb (5 * M + 1) w8 (r7.below hb8) (r5.below (bl_trans m7 hb8)) HS5.out (by omega) (by have := HM.out.2; omega)).mono ?_); rintro e w9 ⟨rfl, hb9⟩)
        | (go_at_call 31; (with_reducible refine (spoil_calls wr.heap.size _ la w6 w9 hO6 hb6.size (bl_trans hb7 (bl_trans hb8 hb9))).mono ?_); rintro e w10 ⟨rfl, hm10, hk10⟩; have hO10 := (hO7.below (bl_trans hb8 hb9)).far hk10; have hs10 : w6.heap.size ≤ w10.heap.size := Nat.le_trans hb7.size (Nat.le_trans hb8.size (Nat.le_trans hb9.size hm10.size)))
        | (go_at_call 31; (with_reducible refine (spoil_calls w6.heap.size _ lb w10 w10 hO10 hs10 (Below.refl _ _)).mono ?_); rintro e w11 ⟨rfl, hm11, hk11⟩))
      go_roundw
      case rel => exact ⟨k + 1, by omega, by simp, hb.trans ((((bl_trans hb6 (bl_trans hb7 (bl_trans hb8 hb9))).trans hm10).trans (hm11.mono hb6.size)).mono hb.size)⟩
      case measure => simp [intOf]; omega
    · obtain rfl : k = 2 := by omega
      go_wp2_with (go_at_call 26; (with_reducible refine (awake36_calls _).mono ?_); rintro e w3 ⟨rfl, hb3⟩)
      go_ret
      exact ⟨rfl, bl_trans (bl_trans m5 hb) hb3⟩
end Go.Proofs.Ytnmmgegnioihmaa
