/- The laws' own helpers: awake of layer 36. -/
import Derived.Test.YtnmmgegnioihmaaLaw1
set_option linter.unusedVariables false
set_option linter.unusedSimpArgs false
namespace Go.Proofs.Ytnmmgegnioihmaa
open Go.RowKit

theorem FromInts1 (A : Option Addr) (c : Nat) (x : Int) (w : World) (h : Row enc64 w A c [x]) (h1 : -9223372036854775808 ≤ x) (h2 : x ≤ 9223372036854775807) :
    Calls Try.prog 42 #[.slice A 1 c] w fun e w' => ∃ q D d, e = .returned (.slice D 1 d) ∧ Hid (q = canQ (x : Rat)) ∧ q.S ≤ 3 ∧ QRow w' D d [q] ∧ Below w.heap.size w w' := by
  refine (vec_FromInts_calls A c [x] w h (fun y hy => by simp at hy; subst hy; exact ⟨h1, h2⟩) (by simp)).mono ?_
  rintro e w' ⟨l, v, HL, hS, rfl, hO, hb⟩
  obtain ⟨D, d, rfl, _⟩ := hO.form
  have hl := HL.out
  simp only [List.map_cons, List.map_nil] at hl
  subst hl
  exact ⟨_, D, d, rfl, Lib.hid rfl, hS _ (by simp), hO.isR.row.2, hb⟩
theorem FromInts2 (A : Option Addr) (c : Nat) (x y : Int) (w : World) (h : Row enc64 w A c [x, y]) (h1 : -9223372036854775808 ≤ x) (h2 : x ≤ 9223372036854775807) (h3 : -9223372036854775808 ≤ y) (h4 : y ≤ 9223372036854775807) :
    Calls Try.prog 42 #[.slice A 2 c] w fun e w' => ∃ q r D d, e = .returned (.slice D 2 d) ∧ Hid (q = canQ (x : Rat) ∧ r = canQ (y : Rat)) ∧ (q.S ≤ 3 ∧ r.S ≤ 3) ∧ QRow w' D d [q, r] ∧ Below w.heap.size w w' := by
  refine (vec_FromInts_calls A c [x, y] w h (fun z hz => by simp at hz; rcases hz with rfl | rfl; exact ⟨h1, h2⟩; exact ⟨h3, h4⟩) (by simp)).mono ?_
  rintro e w' ⟨l, v, HL, hS, rfl, hO, hb⟩
  obtain ⟨D, d, rfl, _⟩ := hO.form
  have hl := HL.out
  simp only [List.map_cons, List.map_nil] at hl
  subst hl
  exact ⟨_, _, D, d, rfl, Lib.hid ⟨rfl, rfl⟩, ⟨hS _ (by simp), hS _ (by simp)⟩, hO.isR.row.2, hb⟩
theorem PostAll.ok1 {w w' : World} {x : Int} {P P' G G' : List Qr} {M : Nat} {e : Ending} (h : PostAll w [x] P P' G G' M e w') (hok : 0 ≤ x ∧ x < P.length ∧ x < P'.length) :
    ∃ q A c, e = .returned (.tuple #[.slice A 1 c, .int .i64 0]) ∧ Hid (q = canQ (amt [x] P P' G G' 0)) ∧ q.S ≤ M ∧ QRow w' A c [q] ∧ Below w.heap.size w w' := by
  obtain ⟨v, c, rfl, hb, h⟩ := h
  rcases h with ⟨_, rfl, l, HL, hS, hO⟩ | ⟨hn, _⟩
  · obtain ⟨A, c, rfl, _⟩ := hO.form
    have hl := HL.out
    simp only [amts, List.length_cons, List.length_nil, Nat.zero_add, List.range_succ, List.range_zero, List.nil_append, List.map_cons, List.map_nil] at hl
    subst hl
    exact ⟨_, A, c, rfl, Lib.hid rfl, hS _ (by simp), hO.isR.row.2, hb⟩
  · exact absurd (fun y hy => by simp at hy; subst hy; exact hok) hn
theorem PostAll.bad1 {w w' : World} {x : Int} {P P' G G' : List Qr} {M : Nat} {e : Ending} (h : PostAll w [x] P P' G G' M e w') (hok : ¬ (0 ≤ x ∧ x < P.length ∧ x < P'.length)) :
    e = .returned (.tuple #[.slice none 0 0, .int .i64 1]) ∧ Below w.heap.size w w' := by
  obtain ⟨v, c, rfl, hb, h⟩ := h
  rcases h with ⟨hn, _⟩ | ⟨_, rfl, rfl⟩
  · exact absurd (hn x (by simp)) hok
  · exact ⟨rfl, hb⟩
theorem QRow.at0 {w : World} {A : Option Addr} {c : Nat} {q : Qr} {l : List Qr} (h : QRow w A c (q :: l)) : ∃ b off A1 c1 A2 c2, A = some ⟨b, off, none⟩ ∧
    w.cell? ⟨b, off, none⟩ = some (.bool q.n.neg) ∧ w.cell? ⟨b, off + 1, none⟩ = some (.slice A1 q.n.ws.length c1) ∧ w.cell? ⟨b, off + 2, none⟩ = some (.bool q.d.neg) ∧ w.cell? ⟨b, off + 3, none⟩ = some (.slice A2 q.d.ws.length c2) ∧
    IsQ w (.agg #[.bool q.n.neg, .slice A1 q.n.ws.length c1, .bool q.d.neg, .slice A2 q.d.ws.length c2]) q := by
  obtain ⟨b, off, A1, c1, A2, c2, e, h⟩ := h.at (k := 0) (by simp)
  exact ⟨b, off, A1, c1, A2, c2, e, h⟩
theorem S1 {q : Qr} {M : Nat} (h : q.S ≤ M) : ∀ r ∈ [q], r.S ≤ M := fun r hr => by simp at hr; subst hr; exact h
theorem S2 {q q' : Qr} {M : Nat} (h : q.S ≤ M ∧ q'.S ≤ M) : ∀ r ∈ [q, q'], r.S ≤ M := fun r hr => by simp at hr; rcases hr with rfl | rfl; exact h.1; exact h.2
theorem val_a {g g' p p' x x' : Qr} (h1 : g = canQ ((10 : Int) : Rat)) (h2 : g' = canQ ((7 : Int) : Rat)) (h3 : p = canQ ((20 : Int) : Rat)) (h4 : p' = canQ ((30 : Int) : Rat)) : amt [0] [p, x] [p', x'] [g] [g'] 0 = ((110 : Int) : Rat) := by
  show owedR g.val p.val g'.val p'.val = _
  rw [h1, h2, h3, h4]
  simp only [canQ_val, owedR]
  grind
theorem val_b {g g' p p' x x' : Qr} (h1 : g = canQ ((10 : Int) : Rat)) (h2 : g' = canQ ((7 : Int) : Rat)) (h3 : p = canQ ((25 : Int) : Rat)) (h4 : p' = canQ ((30 : Int) : Rat)) : amt [1] [x, p] [x', p'] [g] [g'] 0 = ((160 : Int) : Rat) := by
  show owedR g.val p.val g'.val p'.val = _
  rw [h1, h2, h3, h4]
  simp only [canQ_val, owedR]
  grind
theorem mx1 {α : Type} {x : α} : [x].length ≤ maxLen := by unfold maxLen; simp
theorem mx2 {α : Type} {x y : α} : [x, y].length ≤ maxLen := by unfold maxLen; simp
theorem F1 (x : Int) (X : World) (T : TypeId) (n : Nat) (hn : n = X.heap.size) (h1 : -9223372036854775808 ≤ x) (h2 : x ≤ 9223372036854775807) :
    Calls Try.prog 42 #[.slice (some ⟨n, 0, none⟩) 1 1] (X.alloc (.cells #[.int .i64 x] T)) fun e w' => ∃ q D d, e = .returned (.slice D 1 d) ∧ Hid (q = canQ (x : Rat)) ∧ q.S ≤ 3 ∧ QRow w' D d [q] ∧ Below X.heap.size X w' := by
  refine (FromInts1 _ 1 x _ (lit64 X T [x] _ n rfl hn mx1) h1 h2).mono ?_
  rintro e w' ⟨q, D, d, he, hq, hs, hr, hb⟩
  exact ⟨q, D, d, he, hq, hs, hr, bl_trans (bl_alloc _ _) hb⟩
theorem F2 (x y : Int) (X : World) (T : TypeId) (n : Nat) (hn : n = X.heap.size) (h1 : -9223372036854775808 ≤ x) (h2 : x ≤ 9223372036854775807) (h3 : -9223372036854775808 ≤ y) (h4 : y ≤ 9223372036854775807) :
    Calls Try.prog 42 #[.slice (some ⟨n, 0, none⟩) 2 2] (X.alloc (.cells #[.int .i64 x, .int .i64 y] T)) fun e w' => ∃ q r D d, e = .returned (.slice D 2 d) ∧ Hid (q = canQ (x : Rat) ∧ r = canQ (y : Rat)) ∧ (q.S ≤ 3 ∧ r.S ≤ 3) ∧ QRow w' D d [q, r] ∧ Below X.heap.size X w' := by
  refine (FromInts2 _ 2 x y _ (lit64 X T [x, y] _ n rfl hn mx2) h1 h2 h3 h4).mono ?_
  rintro e w' ⟨q, r, D, d, he, hq, hs, hr, hb⟩
  exact ⟨q, r, D, d, he, hq, hs, hr, bl_trans (bl_alloc _ _) hb⟩
theorem U1 (x : Int) (X : World) (T : TypeId) (n : Nat) (hn : n = X.heap.size) (P1 P2 G1 G2 T1 T2 : Option Addr) (p1 p2 g1 g2 t1 t1' t2 t2' : Nat) (p r p' r' g g' : Qr) (hP : QRow X P1 p1 [p, r]) (hP' : QRow X P2 p2 [p', r']) (hG : QRow X G1 g1 [g]) (hG' : QRow X G2 g2 [g'])
    (sP : p.S ≤ 3 ∧ r.S ≤ 3) (sP' : p'.S ≤ 3 ∧ r'.S ≤ 3) (sG : g.S ≤ 3) (sG' : g'.S ≤ 3) :
    Calls Try.prog 27 #[.slice (some ⟨n, 0, none⟩) 1 1, .agg #[.slice P1 2 p1, .slice G1 1 g1, .slice T1 t1 t1'], .agg #[.slice P2 2 p2, .slice G2 1 g2, .slice T2 t2 t2']] (X.alloc (.cells #[.int .i64 x] T)) fun e w' => PostAll X [x] [p, r] [p', r'] [g] [g'] 18 e w' :=
  (settle_Units_calls _ 1 [x] P1 P2 G1 G2 T1 T2 p1 p2 g1 g2 t1 t1' t2 t2' [p, r] [p', r'] [g] [g'] 3 _ (lit64 X T [x] _ n rfl hn mx1) (by simp) (hP.below (bl_alloc _ _)) (hP'.below (bl_alloc _ _)) (hG.below (bl_alloc _ _)) (hG'.below (bl_alloc _ _)) (S2 sP) (S2 sP') (S1 sG) (S1 sG') (by decide) (by decide)).mono fun e w' h => h.up (bl_alloc _ _)
theorem B1 (x : Int) (X : World) (T : TypeId) (n : Nat) (hn : n = X.heap.size) (P1 P2 G1 G2 T1 T2 : Option Addr) (p1 p2 g1 g2 t1 t1' t2 t2' : Nat) (p r p' r' g g' : Qr) (hP : QRow X P1 p1 [p, r]) (hP' : QRow X P2 p2 [p', r']) (hG : QRow X G1 g1 [g]) (hG' : QRow X G2 g2 [g'])
    (sP : p.S ≤ 3 ∧ r.S ≤ 3) (sP' : p'.S ≤ 3 ∧ r'.S ≤ 3) (sG : g.S ≤ 3) (sG' : g'.S ≤ 3) :
    Calls Try.prog 28 #[.slice (some ⟨n, 0, none⟩) 1 1, .agg #[.slice P1 2 p1, .slice T1 t1 t1', .slice G1 1 g1], .agg #[.slice P2 2 p2, .slice T2 t2 t2', .slice G2 1 g2]] (X.alloc (.cells #[.int .i64 x] T)) fun e w' => PostAll X [x] [p, r] [p', r'] [g] [g'] 18 e w' :=
  (settle_Bids_calls _ 1 [x] P1 P2 G1 G2 T1 T2 p1 p2 g1 g2 t1 t1' t2 t2' [p, r] [p', r'] [g] [g'] 3 _ (lit64 X T [x] _ n rfl hn mx1) (by simp) (hP.below (bl_alloc _ _)) (hP'.below (bl_alloc _ _)) (hG.below (bl_alloc _ _)) (hG'.below (bl_alloc _ _)) (S2 sP) (S2 sP') (S1 sG) (S1 sG') (by decide) (by decide)).mono fun e w' h => h.up (bl_alloc _ _)
theorem Rest1 (A B : Option Addr) (c d : Nat) (q r : Qr) (w : World) (h : QRow w A c [q]) (h' : QRow w B d [r]) (hq : q.S ≤ 18) (hr : r.S ≤ 18) :
    Calls Try.prog 40 #[.slice A 1 c, .slice B 1 d] w (PostQ w (q.val - r.val) 38) := by
  refine (settle_Rest_calls A c [q] B d [r] 18 w h.isR h'.isR (S1 hq) (S1 hr) (by decide) (by simp) (by simp) (by simp)).mono fun e w' h => ?_
  have e1 : sumV (List.map Qr.val [q]) = q.val := by simp [sumV, Rat.zero_add]
  have e2 : sumV (List.map Qr.val [r]) = r.val := by simp [sumV, Rat.zero_add]
  rw [e1, e2] at h
  exact h
/-- three cells -/
def Thr (W : World) (k : Nat) (a b c : Value) : Prop := W.cell? ⟨k, 0, none⟩ = some a ∧ W.cell? ⟨k, 1, none⟩ = some b ∧ W.cell? ⟨k, 2, none⟩ = some c
theorem Thr.new (X : World) (a b c : Value) (T : TypeId) : Thr (X.alloc (.cells #[a, b, c] T)) X.heap.size a b c := by
  refine ⟨?_, ?_, ?_⟩ <;> (rw [cell_of_row _ _ _ _ _ _ (heap_alloc_new X _)]; rfl)
theorem Thr.below {W W' : World} {k : Nat} {a b c : Value} (h : Thr W k a b c) (hb : Below W.heap.size W W') : Thr W' k a b c := ⟨bl_cell hb h.1, bl_cell hb h.2.1, bl_cell hb h.2.2⟩
theorem Thr.two {W : World} {k : Nat} {a b c : Value} (h : Thr W k a b c) : (∀ o o', ((W.alloc o).alloc o').cell? ⟨k, 0, none⟩ = some a) ∧ (∀ o o', ((W.alloc o).alloc o').cell? ⟨k, 1, none⟩ = some b) ∧ (∀ o o', ((W.alloc o).alloc o').cell? ⟨k, 2, none⟩ = some c) :=
  ⟨fun o o' => bl_cell (bl_alloc2 (bl_alloc W o) o') h.1, fun o o' => bl_cell (bl_alloc2 (bl_alloc W o) o') h.2.1, fun o o' => bl_cell (bl_alloc2 (bl_alloc W o) o') h.2.2⟩
theorem Thr.one {W : World} {k : Nat} {a b c : Value} (h : Thr W k a b c) : (∀ o, (W.alloc o).cell? ⟨k, 0, none⟩ = some a) ∧ (∀ o, (W.alloc o).cell? ⟨k, 1, none⟩ = some b) ∧ (∀ o, (W.alloc o).cell? ⟨k, 2, none⟩ = some c) :=
  ⟨fun o => bl_cell (bl_alloc W o) h.1, fun o => bl_cell (bl_alloc W o) h.2.1, fun o => bl_cell (bl_alloc W o) h.2.2⟩
end Go.Proofs.Ytnmmgegnioihmaa
