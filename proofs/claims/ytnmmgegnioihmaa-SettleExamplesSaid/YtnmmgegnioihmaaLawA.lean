/- The laws' own helpers: is. -/
import Derived.Test.YtnmmgegnioihmaaFracA
import Derived.Test.YtnmmgegnioihmaaSettA
set_option linter.unusedVariables false
set_option linter.unusedSimpArgs false
namespace Go.Proofs.Ytnmmgegnioihmaa
open Go.RowKit

set_option maxHeartbeats 2000000 in
theorem is36_calls (va : Value) (a : Qr) (n : Int) (w : World) (ha : IsQ w va a) (h1 : -9223372036854775808 ≤ n) (h2 : n ≤ 9223372036854775807) (hlen : 8 * (a.S + 3) + 8 ≤ 35184372088832) :
    Calls Try.prog 45 #[va, .int .i64 n] w fun e w' => e = .returned (.bool (decide (a.val = (n : Rat)))) ∧ Below w.heap.size w w' := by
  have hA := ha
  obtain ⟨A1, c1, A2, c2, rfl⟩ := ha.slices
  have HL := Lib.hid hlen
  have H1 := Lib.hid h1
  have H2 := Lib.hid h2
  clear hlen ha h1 h2
  go_enter Try.func45, Try.ntmps45
  go_wp2
  generalize hw0 : World.alloc _ _ = w0
  have hb0 : Below w.heap.size w w0 := by subst hw0; exact bl_alloc _ _
  have t1 : Box4 w w0 (fun _ => False) w.heap.size (.bool a.n.neg) (.slice A1 a.n.ws.length c1) (.bool a.d.neg) (.slice A2 a.d.ws.length c2) := Box4.mk (fun h => h) (by subst hw0; refine ⟨?_, ?_, ?_, ?_⟩ <;> go_simp)
  have f0 : Fr w w0 (fun _ => False) w0 := Fr.start hb0
  clear hw0
  go_region_held3 (fun W => Fr w w0 (fun _ => False) W) (first | assumption | exact Fr.drew (by assumption) | exact Fr.call (by assumption) (by assumption)) (first
    | (go_at_call 74; (with_reducible refine (frac_FromInt64_calls n _ H1.out H2.out).mono ?_); rintro e w1 ⟨q1, x1, HQ1, hS1, rfl, hN1, hb1⟩; have hq1 := hN1.is; obtain ⟨B1, d1, B2, d2, rfl⟩ := hq1.slices)
    | (go_at_call 34; (with_reducible refine (frac_Equal_calls _ _ a q1 _ (hA.below (Fr.b (by assumption))) hq1 (by have := HL.out; omega)).mono ?_); rintro e w2 ⟨rfl, hb2⟩; have f2 := Fr.call (by assumption) hb2))
  go_wp2
  go_ret
  exact ⟨ret_bool (by rw [HQ1.out, canQ_val]), f2.b⟩
theorem lit64 (X : World) (T : TypeId) (xs : List Int) (cs : Array Value) (n : Nat) (hcs : cs = (xs.map enc64).toArray) (hn : n = X.heap.size) (hl : xs.length ≤ maxLen) : Row enc64 (X.alloc (.cells cs T)) (some ⟨n, 0, none⟩) xs.length xs := by
  subst hn
  refine (NRow.new (n0 := 0) (heap_alloc_new X _) (Nat.zero_le _) hl (Nat.le_refl _) fun j x hj => ?_).toRow
  subst hcs
  simp [hj]
example : owedR 10 20 7 30 = 110 := by unfold owedR; grind
example : sumV [160] - sumV [110] = (50 : Rat) := by unfold sumV; simp; grind
end Go.Proofs.Ytnmmgegnioihmaa
namespace Go.Proofs.Ytnmmgegnioihmaa
open Go.RowKit

theorem FromInts1 (A : Option Addr) (c : Nat) (x : Int) (w : World) (h : Row enc64 w A c [x]) (h1 : -9223372036854775808 ≤ x) (h2 : x ≤ 9223372036854775807) :
    Calls Try.prog 43 #[.slice A 1 c] w fun e w' => ∃ q D d, e = .returned (.slice D 1 d) ∧ Hid (q = canQ (x : Rat)) ∧ q.S ≤ 3 ∧ QRow w' D d [q] ∧ Below w.heap.size w w' := by
  refine (vec_FromInts_calls A c [x] w h (fun y hy => by simp at hy; subst hy; exact ⟨h1, h2⟩) (by simp)).mono ?_
  rintro e w' ⟨l, v, HL, hS, rfl, hO, hb⟩
  obtain ⟨D, d, rfl, _⟩ := hO.form
  have hl := HL.out
  simp only [List.map_cons, List.map_nil] at hl
  subst hl
  exact ⟨_, D, d, rfl, Lib.hid rfl, hS _ (by simp), hO.isR.row.2, hb⟩
theorem FromInts2 (A : Option Addr) (c : Nat) (x y : Int) (w : World) (h : Row enc64 w A c [x, y]) (h1 : -9223372036854775808 ≤ x) (h2 : x ≤ 9223372036854775807) (h3 : -9223372036854775808 ≤ y) (h4 : y ≤ 9223372036854775807) :
    Calls Try.prog 43 #[.slice A 2 c] w fun e w' => ∃ q r D d, e = .returned (.slice D 2 d) ∧ Hid (q = canQ (x : Rat) ∧ r = canQ (y : Rat)) ∧ (q.S ≤ 3 ∧ r.S ≤ 3) ∧ QRow w' D d [q, r] ∧ Below w.heap.size w w' := by
  refine (vec_FromInts_calls A c [x, y] w h (fun z hz => by simp at hz; rcases hz with rfl | rfl; exact ⟨h1, h2⟩; exact ⟨h3, h4⟩) (by simp)).mono ?_
  rintro e w' ⟨l, v, HL, hS, rfl, hO, hb⟩
  obtain ⟨D, d, rfl, _⟩ := hO.form
  have hl := HL.out
  simp only [List.map_cons, List.map_nil] at hl
  subst hl
  exact ⟨_, _, D, d, rfl, Lib.hid ⟨rfl, rfl⟩, ⟨hS _ (by simp), hS _ (by simp)⟩, hO.isR.row.2, hb⟩
theorem PostAll.ok1 {w w' : World} {x : Int} {P P' G G' : List Qr} {M : Nat} {e : Ending} (h : PostAll w [x] P P' G G' M e w') (hok : 0 ≤ x ∧ x < P.length ∧ x < P'.length) :
    ∃ q A c, e = .returned (.tuple #[.slice A 1 c, .int .i64 0]) ∧ Hid (q = canQ (amt [x] P P' G G' 0)) ∧ q.S ≤ M ∧ QRow w' A c [q] ∧ Below w.heap.size w w' := by
  obtain ⟨v, c, rfl, hb, h⟩ := h
  rcases h with ⟨_, rfl, l, HL, hS, hO⟩ | ⟨hn, _⟩
  · obtain ⟨A, c, rfl, _⟩ := hO.form
    have hl := HL.out
    simp only [amts, List.length_cons, List.length_nil, Nat.zero_add, List.range_succ, List.range_zero, List.nil_append, List.map_cons, List.map_nil] at hl
    subst hl
    exact ⟨_, A, c, rfl, Lib.hid rfl, hS _ (by simp), hO.isR.row.2, hb⟩
  · exact absurd (fun y hy => by simp at hy; subst hy; exact hok) hn
theorem PostAll.bad1 {w w' : World} {x : Int} {P P' G G' : List Qr} {M : Nat} {e : Ending} (h : PostAll w [x] P P' G G' M e w') (hok : ¬ (0 ≤ x ∧ x < P.length ∧ x < P'.length)) :
    e = .returned (.tuple #[.slice none 0 0, .int .i64 1]) ∧ Below w.heap.size w w' := by
  obtain ⟨v, c, rfl, hb, h⟩ := h
  rcases h with ⟨hn, _⟩ | ⟨_, rfl, rfl⟩
  · exact absurd (hn x (by simp)) hok
  · exact ⟨rfl, hb⟩
theorem QRow.at0 {w : World} {A : Option Addr} {c : Nat} {q : Qr} {l : List Qr} (h : QRow w A c (q :: l)) : ∃ b off A1 c1 A2 c2, A = some ⟨b, off, none⟩ ∧
    w.cell? ⟨b, off, none⟩ = some (.bool q.n.neg) ∧ w.cell? ⟨b, off + 1, none⟩ = some (.slice A1 q.n.ws.length c1) ∧ w.cell? ⟨b, off + 2, none⟩ = some (.bool q.d.neg) ∧ w.cell? ⟨b, off + 3, none⟩ = some (.slice A2 q.d.ws.length c2) ∧
    IsQ w (.agg #[.bool q.n.neg, .slice A1 q.n.ws.length c1, .bool q.d.neg, .slice A2 q.d.ws.length c2]) q := by
  obtain ⟨b, off, A1, c1, A2, c2, e, h⟩ := h.at (k := 0) (by simp)
  exact ⟨b, off, A1, c1, A2, c2, e, h⟩
theorem S1 {q : Qr} {M : Nat} (h : q.S ≤ M) : ∀ r ∈ [q], r.S ≤ M := fun r hr => by simp at hr; subst hr; exact h
theorem S2 {q q' : Qr} {M : Nat} (h : q.S ≤ M ∧ q'.S ≤ M) : ∀ r ∈ [q, q'], r.S ≤ M := fun r hr => by simp at hr; rcases hr with rfl | rfl; exact h.1; exact h.2
theorem val_a {g g' p p' x x' : Qr} (h1 : g = canQ ((10 : Int) : Rat)) (h2 : g' = canQ ((7 : Int) : Rat)) (h3 : p = canQ ((20 : Int) : Rat)) (h4 : p' = canQ ((30 : Int) : Rat)) : amt [0] [p, x] [p', x'] [g] [g'] 0 = ((110 : Int) : Rat) := by
  show owedR g.val p.val g'.val p'.val = _
  rw [h1, h2, h3, h4]
  simp only [canQ_val, owedR]
  grind
theorem val_b {g g' p p' x x' : Qr} (h1 : g = canQ ((10 : Int) : Rat)) (h2 : g' = canQ ((7 : Int) : Rat)) (h3 : p = canQ ((25 : Int) : Rat)) (h4 : p' = canQ ((30 : Int) : Rat)) : amt [1] [x, p] [x', p'] [g] [g'] 0 = ((160 : Int) : Rat) := by
  show owedR g.val p.val g'.val p'.val = _
  rw [h1, h2, h3, h4]
  simp only [canQ_val, owedR]
  grind
theorem mx1 {α : Type} {x : α} : [x].length ≤ maxLen := by unfold maxLen; simp
theorem mx2 {α : Type} {x y : α} : [x, y].length ≤ maxLen := by unfold maxLen; simp
theorem F1 (x : Int) (X : World) (T : TypeId) (n : Nat) (hn : n = X.heap.size) (h1 : -9223372036854775808 ≤ x) (h2 : x ≤ 9223372036854775807) :
    Calls Try.prog 43 #[.slice (some ⟨n, 0, none⟩) 1 1] (X.alloc (.cells #[.int .i64 x] T)) fun e w' => ∃ q D d, e = .returned (.slice D 1 d) ∧ Hid (q = canQ (x : Rat)) ∧ q.S ≤ 3 ∧ QRow w' D d [q] ∧ Below X.heap.size X w' := by
  refine (FromInts1 _ 1 x _ (lit64 X T [x] _ n rfl hn mx1) h1 h2).mono ?_
  rintro e w' ⟨q, D, d, he, hq, hs, hr, hb⟩
  exact ⟨q, D, d, he, hq, hs, hr, bl_trans (bl_alloc _ _) hb⟩
theorem F2 (x y : Int) (X : World) (T : TypeId) (n : Nat) (hn : n = X.heap.size) (h1 : -9223372036854775808 ≤ x) (h2 : x ≤ 9223372036854775807) (h3 : -9223372036854775808 ≤ y) (h4 : y ≤ 9223372036854775807) :
    Calls Try.prog 43 #[.slice (some ⟨n, 0, none⟩) 2 2] (X.alloc (.cells #[.int .i64 x, .int .i64 y] T)) fun e w' => ∃ q r D d, e = .returned (.slice D 2 d) ∧ Hid (q = canQ (x : Rat) ∧ r = canQ (y : Rat)) ∧ (q.S ≤ 3 ∧ r.S ≤ 3) ∧ QRow w' D d [q, r] ∧ Below X.heap.size X w' := by
  refine (FromInts2 _ 2 x y _ (lit64 X T [x, y] _ n rfl hn mx2) h1 h2 h3 h4).mono ?_
  rintro e w' ⟨q, r, D, d, he, hq, hs, hr, hb⟩
  exact ⟨q, r, D, d, he, hq, hs, hr, bl_trans (bl_alloc _ _) hb⟩
theorem U1 (x : Int) (X : World) (T : TypeId) (n : Nat) (hn : n = X.heap.size) (P1 P2 G1 G2 T1 T2 : Option Addr) (p1 p2 g1 g2 t1 t1' t2 t2' : Nat) (p r p' r' g g' : Qr) (hP : QRow X P1 p1 [p, r]) (hP' : QRow X P2 p2 [p', r']) (hG : QRow X G1 g1 [g]) (hG' : QRow X G2 g2 [g'])
    (sP : p.S ≤ 3 ∧ r.S ≤ 3) (sP' : p'.S ≤ 3 ∧ r'.S ≤ 3) (sG : g.S ≤ 3) (sG' : g'.S ≤ 3) :
    Calls Try.prog 28 #[.slice (some ⟨n, 0, none⟩) 1 1, .agg #[.slice P1 2 p1, .slice G1 1 g1, .slice T1 t1 t1'], .agg #[.slice P2 2 p2, .slice G2 1 g2, .slice T2 t2 t2']] (X.alloc (.cells #[.int .i64 x] T)) fun e w' => PostAll X [x] [p, r] [p', r'] [g] [g'] 18 e w' :=
  (settle_Units_calls _ 1 [x] P1 P2 G1 G2 T1 T2 p1 p2 g1 g2 t1 t1' t2 t2' [p, r] [p', r'] [g] [g'] 3 _ (lit64 X T [x] _ n rfl hn mx1) (by simp) (hP.below (bl_alloc _ _)) (hP'.below (bl_alloc _ _)) (hG.below (bl_alloc _ _)) (hG'.below (bl_alloc _ _)) (S2 sP) (S2 sP') (S1 sG) (S1 sG') (by decide) (by decide)).mono fun e w' h => h.up (bl_alloc _ _)
theorem B1 (x : Int) (X : World) (T : TypeId) (n : Nat) (hn : n = X.heap.size) (P1 P2 G1 G2 T1 T2 : Option Addr) (p1 p2 g1 g2 t1 t1' t2 t2' : Nat) (p r p' r' g g' : Qr) (hP : QRow X P1 p1 [p, r]) (hP' : QRow X P2 p2 [p', r']) (hG : QRow X G1 g1 [g]) (hG' : QRow X G2 g2 [g'])
    (sP : p.S ≤ 3 ∧ r.S ≤ 3) (sP' : p'.S ≤ 3 ∧ r'.S ≤ 3) (sG : g.S ≤ 3) (sG' : g'.S ≤ 3) :
    Calls Try.prog 29 #[.slice (some ⟨n, 0, none⟩) 1 1, .agg #[.slice P1 2 p1, .slice T1 t1 t1', .slice G1 1 g1], .agg #[.slice P2 2 p2, .slice T2 t2 t2', .slice G2 1 g2]] (X.alloc (.cells #[.int .i64 x] T)) fun e w' => PostAll X [x] [p, r] [p', r'] [g] [g'] 18 e w' :=
  (settle_Bids_calls _ 1 [x] P1 P2 G1 G2 T1 T2 p1 p2 g1 g2 t1 t1' t2 t2' [p, r] [p', r'] [g] [g'] 3 _ (lit64 X T [x] _ n rfl hn mx1) (by simp) (hP.below (bl_alloc _ _)) (hP'.below (bl_alloc _ _)) (hG.below (bl_alloc _ _)) (hG'.below (bl_alloc _ _)) (S2 sP) (S2 sP') (S1 sG) (S1 sG') (by decide) (by decide)).mono fun e w' h => h.up (bl_alloc _ _)
theorem Rest1 (A B : Option Addr) (c d : Nat) (q r : Qr) (w : World) (h : QRow w A c [q]) (h' : QRow w B d [r]) (hq : q.S ≤ 18) (hr : r.S ≤ 18) :
    Calls Try.prog 41 #[.slice A 1 c, .slice B 1 d] w (PostQ w (q.val - r.val) 38) := by
  refine (settle_Rest_calls A c [q] B d [r] 18 w h.isR h'.isR (S1 hq) (S1 hr) (by decide) (by simp) (by simp) (by simp)).mono fun e w' h => ?_
  have e1 : sumV (List.map Qr.val [q]) = q.val := by simp [sumV, Rat.zero_add]
  have e2 : sumV (List.map Qr.val [r]) = r.val := by simp [sumV, Rat.zero_add]
  rw [e1, e2] at h
  exact h
/-- three cells -/
def Thr (W : World) (k : Nat) (a b c : Value) : Prop := W.cell? ⟨k, 0, none⟩ = some a ∧ W.cell? ⟨k, 1, none⟩ = some b ∧ W.cell? ⟨k, 2, none⟩ = some c
theorem Thr.new (X : World) (a b c : Value) (T : TypeId) : Thr (X.alloc (.cells #[a, b, c] T)) X.heap.size a b c := by
  refine ⟨?_, ?_, ?_⟩ <;> (rw [cell_of_row _ _ _ _ _ _ (heap_alloc_new X _)]; rfl)
theorem Thr.below {W W' : World} {k : Nat} {a b c : Value} (h : Thr W k a b c) (hb : Below W.heap.size W W') : Thr W' k a b c := ⟨bl_cell hb h.1, bl_cell hb h.2.1, bl_cell hb h.2.2⟩
theorem Thr.two {W : World} {k : Nat} {a b c : Value} (h : Thr W k a b c) : (∀ o o', ((W.alloc o).alloc o').cell? ⟨k, 0, none⟩ = some a) ∧ (∀ o o', ((W.alloc o).alloc o').cell? ⟨k, 1, none⟩ = some b) ∧ (∀ o o', ((W.alloc o).alloc o').cell? ⟨k, 2, none⟩ = some c) :=
  ⟨fun o o' => bl_cell (bl_alloc2 (bl_alloc W o) o') h.1, fun o o' => bl_cell (bl_alloc2 (bl_alloc W o) o') h.2.1, fun o o' => bl_cell (bl_alloc2 (bl_alloc W o) o') h.2.2⟩
theorem Thr.one {W : World} {k : Nat} {a b c : Value} (h : Thr W k a b c) : (∀ o, (W.alloc o).cell? ⟨k, 0, none⟩ = some a) ∧ (∀ o, (W.alloc o).cell? ⟨k, 1, none⟩ = some b) ∧ (∀ o, (W.alloc o).cell? ⟨k, 2, none⟩ = some c) :=
  ⟨fun o => bl_cell (bl_alloc W o) h.1, fun o => bl_cell (bl_alloc W o) h.2.1, fun o => bl_cell (bl_alloc W o) h.2.2⟩
end Go.Proofs.Ytnmmgegnioihmaa
namespace Go.Proofs.Ytnmmgegnioihmaa
open Go.RowKit

set_option maxHeartbeats 8000000 in
theorem awake36_calls (w : World) : Calls Try.prog 26 #[] w fun e w' => e = .returned (.bool true) ∧ Below w.heap.size w w' := by
  go_enter Try.func26, Try.ntmps26
  go_wp2_with (first
    | (go_at_call 45; (with_reducible refine (is36_calls _ q18 50 _ hq18 (by omega) (by omega) (by omega)).mono ?_); rintro e w19 ⟨rfl, hb19⟩; rw [decide_eq_true (by rw [HQ18.out, canQ_val]; rw [va, vb]; grind)])
    | (go_at_call 41; (with_reducible refine (Rest1 _ _ _ _ qb qa _ (Rb7.below (bl_trans hb9 (bl_trans n15 (bl_trans hb16 hb17)))) (Ra7.below (bl_trans hb8 (bl_trans hb9 (bl_trans n15 (bl_trans hb16 hb17))))) hSb hSa).mono ?_); rintro e w18 ⟨q18, u18, HQ18, hS18, rfl, hN18, hb18⟩; have hq18 := hN18.is; obtain ⟨X18, x18, Y18, z18, rfl⟩ := hq18.slices)
    | (go_at_call 45; (with_reducible refine (is36_calls _ qb 160 _ (hqb.below (bl_trans hb9 (bl_trans n15 hb16))) (by omega) (by omega) (by omega)).mono ?_); rintro e w17 ⟨rfl, hb17⟩; rw [decide_eq_true vb])
    | (go_at_call 45; (with_reducible refine (is36_calls _ qa 110 _ (hqa.below (bl_trans hb8 (bl_trans hb9 n15))) (by omega) (by omega) (by omega)).mono ?_); rintro e w16 ⟨rfl, hb16⟩; rw [decide_eq_true va]; have t0 := bl_cell (bl_trans hb9 (bl_trans n15 hb16)) b0; have t1 := bl_cell (bl_trans hb9 (bl_trans n15 hb16)) b1; have t2 := bl_cell (bl_trans hb9 (bl_trans n15 hb16)) b2; have t3 := bl_cell (bl_trans hb9 (bl_trans n15 hb16)) b3)
    | (go_at_call 45; (with_reducible refine (is36_calls _ q14 110 _ hq14 (by omega) (by omega) (by omega)).mono ?_); rintro e w15 ⟨rfl, hb15⟩; rw [decide_eq_true v14]; have n15 := bl_trans n14 hb15; have s0 := bl_cell (bl_trans hb8 (bl_trans hb9 n15)) a0; have s1 := bl_cell (bl_trans hb8 (bl_trans hb9 n15)) a1; have s2 := bl_cell (bl_trans hb8 (bl_trans hb9 n15)) a2; have s3 := bl_cell (bl_trans hb8 (bl_trans hb9 n15)) a3)
    | (go_at_call 39; (with_reducible refine (settle_Owed_calls _ _ _ _ q10 q11 q12 q13 _ (hq10.below (bl_trans hb11 (bl_trans hb12 hb13))) (hq11.below (bl_trans hb12 hb13)) (hq12.below hb13) hq13 (by omega)).mono ?_); rintro e w14 ⟨q14, u14, HQ14, hS14, rfl, hN14, hb14⟩; have hq14 := hN14.is; obtain ⟨X14, x14, Y14, z14, rfl⟩ := hq14.slices; have v14 : q14.val = ((110 : Int) : Rat) := (by rw [HQ14.out, HQ10.out, HQ11.out, HQ12.out, HQ13.out]; simp only [canQ_val, owedR]; grind); have n14 := bl_trans hb10 (bl_trans hb11 (bl_trans hb12 (bl_trans hb13 hb14))))
    | (go_at_call 74; have _h := hb12; (with_reducible refine (frac_FromInt64_calls 30 _ (by omega) (by omega)).mono ?_); rintro e w13 ⟨q13, u13, HQ13, hS13, rfl, hN13, hb13⟩; have hq13 := hN13.is; obtain ⟨X13, x13, Y13, z13, rfl⟩ := hq13.slices)
    | (go_at_call 74; have _h := hb11; (with_reducible refine (frac_FromInt64_calls 7 _ (by omega) (by omega)).mono ?_); rintro e w12 ⟨q12, u12, HQ12, hS12, rfl, hN12, hb12⟩; have hq12 := hN12.is; obtain ⟨X12, x12, Y12, z12, rfl⟩ := hq12.slices)
    | (go_at_call 74; have _h := hb10; (with_reducible refine (frac_FromInt64_calls 20 _ (by omega) (by omega)).mono ?_); rintro e w11 ⟨q11, u11, HQ11, hS11, rfl, hN11, hb11⟩; have hq11 := hN11.is; obtain ⟨X11, x11, Y11, z11, rfl⟩ := hq11.slices)
    | (go_at_call 74; have _h := hb9; (with_reducible refine (frac_FromInt64_calls 10 _ (by omega) (by omega)).mono ?_); rintro e w10 ⟨q10, u10, HQ10, hS10, rfl, hN10, hb10⟩; have hq10 := hN10.is; obtain ⟨X10, x10, Y10, z10, rfl⟩ := hq10.slices)
    | (go_at_call 28; have _h := hb8; (with_reducible refine (U1 2 _ _ _ rfl D1 D4 D2 D5 D3 D6 _ _ _ _ _ _ _ _ q1 r1 q4 r4 q2 q5 (R1.below (bl_trans m7 hb8)) (R4.below (bl_trans m7 hb8)) (R2.below (bl_trans m7 hb8)) (R5.below (bl_trans m7 hb8)) hS1 hS4 hS2 hS5).mono ?_); rintro e w9 h9; obtain ⟨rfl, hb9⟩ := h9.bad1 (by simp))
    | (go_at_call 29; have _h := hb7; (with_reducible refine (B1 1 _ _ _ rfl D1 D4 D3 D6 D2 D5 _ _ _ _ _ _ _ _ q1 r1 q4 r4 q3 q6 (R1.below m7) (R4.below m7) (R3.below m7) (R6.below m7) hS1 hS4 hS3 hS6).mono ?_); rintro e w8 h8; obtain ⟨qb, Db, db, rfl, HQb, hSb, Rb7, hb8⟩ := h8.ok1 (by simp); have vb : qb.val = ((160 : Int) : Rat) := (by rw [HQb.out, canQ_val, val_b HQ3.out HQ6.out HQ1.out.2 HQ4.out.2]); obtain ⟨bb, ob, Y1, y1, Y2, y2, rfl, b0, b1, b2, b3, hqb⟩ := Rb7.at0; clear L0 L1 L2 M0 M1 M2; obtain ⟨L0, L1, L2⟩ := (T17.below hb8).one; obtain ⟨M0, M1, M2⟩ := (T27.below hb8).one)
    | (go_at_call 28; have _h := hb6; (with_reducible refine (U1 0 _ _ _ (by simp) D1 D4 D2 D5 D3 D6 _ _ _ _ _ _ _ _ q1 r1 q4 r4 q2 q5 (R1.below (bl_alloc _ _)) (R4.below (bl_alloc _ _)) (R2.below (bl_alloc _ _)) (R5.below (bl_alloc _ _)) hS1 hS4 hS2 hS5).mono ?_); rintro e w7 h7; obtain ⟨qa, Da, da, rfl, HQa, hSa, Ra7, hb7⟩ := h7.ok1 (by simp); have va : qa.val = ((110 : Int) : Rat) := (by rw [HQa.out, canQ_val, val_a HQ2.out HQ5.out HQ1.out.1 HQ4.out.1]); obtain ⟨ba, oa, X1, x1, X2, x2, rfl, a0, a1, a2, a3, hqa⟩ := Ra7.at0; have m7 := bl_trans (bl_alloc w6 _) hb7; have T17 := T1.below m7; obtain ⟨L0, L1, L2⟩ := T17.one; have T27 := (Thr.new w6 (.slice D4 2 d4) (.slice D5 1 d5) (.slice D6 1 d6) _).below hb7; obtain ⟨M0, M1, M2⟩ := T27.one; clear K0 K1 K2)
    | (go_at_call 43; have _h := hb5; (with_reducible refine (F1 7 _ _ _ rfl (by omega) (by omega)).mono ?_); rintro e w6 ⟨q6, D6, d6, rfl, HQ6, hS6, R6, hb6⟩; have R5 := R5'.below hb6; have R4 := R4'.below (bl_trans hb5 hb6); have m36 := bl_trans n4 (bl_trans hb5 hb6); have R3 := R3'.below m36; have R2 := R2'.below (bl_trans hb3 m36); have R1 := R1'.below (bl_trans hb2 (bl_trans hb3 m36)); have T1 := ((Thr.new w3 (.slice D1 2 d1) (.slice D2 1 d2) (.slice D3 1 d3) _).below hb4).below (bl_trans hb5 hb6); obtain ⟨K0, K1, K2⟩ := T1.two)
    | (go_at_call 43; have _h := hb4; (with_reducible refine (F1 7 _ _ _ rfl (by omega) (by omega)).mono ?_); rintro e w5 ⟨q5, D5, d5, rfl, HQ5, hS5, R5', hb5⟩)
    | (go_at_call 43; have _h := hb3; (with_reducible refine (F2 30 30 _ _ _ (by simp) (by omega) (by omega) (by omega) (by omega)).mono ?_); rintro e w4 ⟨q4, r4, D4, d4, rfl, HQ4, hS4, R4', hb4⟩; have n4 := bl_trans (bl_alloc w3 _) hb4)
    | (go_at_call 43; have _h := hb2; (with_reducible refine (F1 10 _ _ _ rfl (by omega) (by omega)).mono ?_); rintro e w3 ⟨q3, D3, d3, rfl, HQ3, hS3, R3', hb3⟩)
    | (go_at_call 43; have _h := hb1; (with_reducible refine (F1 10 _ _ _ rfl (by omega) (by omega)).mono ?_); rintro e w2 ⟨q2, D2, d2, rfl, HQ2, hS2, R2', hb2⟩)
    | (go_at_call 43; (with_reducible refine (F2 20 25 _ _ _ rfl (by omega) (by omega) (by omega) (by omega)).mono ?_); rintro e w1 ⟨q1, r1, D1, d1, rfl, HQ1, hS1, R1', hb1⟩))
  refine bodyPost_ret (v := .bool true) (by simp [results, Try.results26, go_sem]) rfl ⟨rfl, ?_⟩
  exact bl_trans hb1 (bl_trans hb2 (bl_trans hb3 (bl_trans n4 (bl_trans hb5 (bl_trans hb6 (bl_trans m7 (bl_trans hb8 (bl_trans hb9 (bl_trans n15 (bl_trans hb16 (bl_trans hb17 (bl_trans hb18 hb19))))))))))))
end Go.Proofs.Ytnmmgegnioihmaa
