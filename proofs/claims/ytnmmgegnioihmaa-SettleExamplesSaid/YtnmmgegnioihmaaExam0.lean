/- SettleExamples: the calls on rows written out. -/
import Derived.Test.YtnmmgegnioihmaaVecA
import Derived.Test.YtnmmgegnioihmaaLawA
set_option linter.unusedVariables false
set_option linter.unusedSimpArgs false
namespace Go.Proofs.Ytnmmgegnioihmaa
open Go.RowKit

def inQ (xs : List Int) : List Qr := xs.map fun i : Int => canQ (i : Rat)
theorem FIn (xs : List Int) (k : Nat) (cs : Array Value) (X : World) (T : TypeId) (n : Nat) (hn : n = X.heap.size) (hk : xs.length = k) (hcs : cs = (xs.map enc64).toArray) (hr : ∀ x ∈ xs, -9223372036854775808 ≤ x ∧ x ≤ 9223372036854775807) (hl : k ≤ 100) :
    Calls Try.prog 43 #[.slice (some ⟨n, 0, none⟩) k k] (X.alloc (.cells cs T)) fun e w' => ∃ l D d, e = .returned (.slice D k d) ∧ Hid (l = inQ xs) ∧ l.length = k ∧ (∀ q ∈ l, q.S ≤ 3) ∧ QRow w' D d l ∧ Below X.heap.size X w' := by
  subst hk
  refine (vec_FromInts_calls _ _ xs _ (lit64 X T xs cs n hcs hn (by unfold maxLen; omega)) hr (by omega)).mono ?_
  rintro e w' ⟨l, v, HL, hS, rfl, hO, hb⟩
  obtain ⟨D, d, rfl, _⟩ := hO.form
  have hl := HL.out
  have hll : l.length = xs.length := by rw [hl]; simp
  exact ⟨l, D, d, by rw [hll], Lib.hid (by rw [hl]; simp [inQ, Function.comp_def]), hll, hS, hO.isR.row.2, bl_trans (bl_alloc _ _) hb⟩
theorem FI1 (x : Int) (X : World) (T : TypeId) (n : Nat) (hn : n = X.heap.size) (h1 : -9223372036854775808 ≤ x ∧ x ≤ 9223372036854775807) :
    Calls Try.prog 43 #[.slice (some ⟨n, 0, none⟩) 1 1] (X.alloc (.cells #[.int .i64 x] T)) fun e w' => ∃ l D d, e = .returned (.slice D 1 d) ∧ Hid (l = inQ [x]) ∧ l.length = 1 ∧ (∀ q ∈ l, q.S ≤ 3) ∧ QRow w' D d l ∧ Below X.heap.size X w' :=
  FIn [x] 1 _ X T n hn rfl rfl (fun y hy => by simp at hy; subst hy; exact h1) (by decide)
theorem FI2 (x y : Int) (X : World) (T : TypeId) (n : Nat) (hn : n = X.heap.size) (h1 : -9223372036854775808 ≤ x ∧ x ≤ 9223372036854775807) (h2 : -9223372036854775808 ≤ y ∧ y ≤ 9223372036854775807) :
    Calls Try.prog 43 #[.slice (some ⟨n, 0, none⟩) 2 2] (X.alloc (.cells #[.int .i64 x, .int .i64 y] T)) fun e w' => ∃ l D d, e = .returned (.slice D 2 d) ∧ Hid (l = inQ [x, y]) ∧ l.length = 2 ∧ (∀ q ∈ l, q.S ≤ 3) ∧ QRow w' D d l ∧ Below X.heap.size X w' :=
  FIn [x, y] 2 _ X T n hn rfl rfl (fun z hz => by simp at hz; rcases hz with rfl | rfl; exact h1; exact h2) (by decide)
theorem FI3 (x y z : Int) (X : World) (T : TypeId) (n : Nat) (hn : n = X.heap.size) (h1 : -9223372036854775808 ≤ x ∧ x ≤ 9223372036854775807) (h2 : -9223372036854775808 ≤ y ∧ y ≤ 9223372036854775807) (h3 : -9223372036854775808 ≤ z ∧ z ≤ 9223372036854775807) :
    Calls Try.prog 43 #[.slice (some ⟨n, 0, none⟩) 3 3] (X.alloc (.cells #[.int .i64 x, .int .i64 y, .int .i64 z] T)) fun e w' => ∃ l D d, e = .returned (.slice D 3 d) ∧ Hid (l = inQ [x, y, z]) ∧ l.length = 3 ∧ (∀ q ∈ l, q.S ≤ 3) ∧ QRow w' D d l ∧ Below X.heap.size X w' :=
  FIn [x, y, z] 3 _ X T n hn rfl rfl (fun u hu => by simp at hu; rcases hu with rfl | rfl | rfl; exact h1; exact h2; exact h3) (by decide)
/-- an element in a block -/
def AtQ (W : World) (g o0 o1 o2 o3 : Nat) (q : Qr) : Prop := ∃ A1 c1 A2 c2, W.cell? ⟨g, o0, none⟩ = some (.bool q.n.neg) ∧ W.cell? ⟨g, o1, none⟩ = some (.slice A1 q.n.ws.length c1) ∧ W.cell? ⟨g, o2, none⟩ = some (.bool q.d.neg) ∧ W.cell? ⟨g, o3, none⟩ = some (.slice A2 q.d.ws.length c2) ∧
  IsQ W (.agg #[.bool q.n.neg, .slice A1 q.n.ws.length c1, .bool q.d.neg, .slice A2 q.d.ws.length c2]) q
theorem AtQ.below {W W' : World} {g o0 o1 o2 o3 : Nat} {q : Qr} (h : AtQ W g o0 o1 o2 o3 q) (hb : Below W.heap.size W W') : AtQ W' g o0 o1 o2 o3 q := by
  obtain ⟨A1, c1, A2, c2, y0, y1, y2, y3, hq⟩ := h
  exact ⟨A1, c1, A2, c2, bl_cell hb y0, bl_cell hb y1, bl_cell hb y2, bl_cell hb y3, hq.below hb⟩
theorem QRow.atQ {w : World} {g c : Nat} {l : List Qr} (h : QRow w (some ⟨g, 0, none⟩) c l) (k : Nat) (hk : k < l.length) : AtQ w g (k * 4) (k * 4 + 1) (k * 4 + 2) (k * 4 + 3) (l.getD k zeroQ) := by
  obtain ⟨b, off, A1, c1, A2, c2, e, y0, y1, y2, y3, hq⟩ := h.at hk
  cases e
  rw [Nat.zero_add] at y0 y1 y2 y3
  exact ⟨A1, c1, A2, c2, y0, y1, y2, y3, hq⟩
theorem OwnQ.block {base n c : Nat} {w : World} {A : Option Addr} {l : List Qr} (h : OwnQ base w (.slice A n c) l) (hl : l.length ≠ 0) : ∃ g, A = some ⟨g, 0, none⟩ := by
  obtain ⟨A', c', e, hA⟩ := h.form
  injection e with e1 e2 e3
  subst e1
  cases A with
  | none => obtain ⟨A2, c2, e, hq⟩ := h.isR; injection e with e1 e2 e3; subst e1; have := hq.none_nil.1; subst this; exact absurd rfl hl
  | some a => obtain ⟨g, rfl⟩ := hA a rfl; exact ⟨g, rfl⟩
theorem PostAll.two {w w' : World} {x y : Int} {P P' G G' : List Qr} {M : Nat} {e : Ending} (h : PostAll w [x, y] P P' G G' M e w') (hok : OkAt [x, y] P.length P'.length) :
    ∃ g c q r, e = .returned (.tuple #[.slice (some ⟨g, 0, none⟩) 2 c, .int .i64 0]) ∧ Hid (q.val = amt [x, y] P P' G G' 0 ∧ r.val = amt [x, y] P P' G G' 1) ∧ (q.S ≤ M ∧ r.S ≤ M) ∧ AtQ w' g 0 1 2 3 q ∧ AtQ w' g 4 5 6 7 r ∧ Below w.heap.size w w' := by
  obtain ⟨v, c, rfl, hb, h⟩ := h
  rcases h with ⟨_, rfl, l, HL, hS, hO⟩ | ⟨hn, _⟩
  · obtain ⟨A, c, rfl, _⟩ := hO.form
    have hl := HL.out
    simp only [amts, List.length_cons, List.length_nil, Nat.zero_add, Nat.reduceAdd, List.range_succ, List.range_zero, List.nil_append, List.map_cons, List.map_nil, List.map_append, List.cons_append] at hl
    have hll : l.length = 2 := by rw [hl]; rfl
    obtain ⟨g, rfl⟩ := hO.block (by omega)
    have r := hO.isR.row.2
    have r0 := r.atQ 0 (by omega)
    have r1 := r.atQ 1 (by omega)
    refine ⟨g, c, _, _, by rw [hll], Lib.hid ⟨?_, ?_⟩, ⟨hS _ ?_, hS _ ?_⟩, r0, r1, hb⟩
    · rw [hl]; exact canQ_val _
    · rw [hl]; exact canQ_val _
    · rw [hl]; simp
    · rw [hl]; simp
  · exact absurd hok hn
theorem PostAll.bad {w w' : World} {xs : List Int} {P P' G G' : List Qr} {M : Nat} {e : Ending} (h : PostAll w xs P P' G G' M e w') (hok : ¬ OkAt xs P.length P'.length) :
    e = .returned (.tuple #[.slice none 0 0, .int .i64 1]) ∧ Below w.heap.size w w' := by
  obtain ⟨v, c, rfl, hb, h⟩ := h
  rcases h with ⟨hn, _⟩ | ⟨_, rfl, rfl⟩
  · exact absurd hn hok
  · exact ⟨rfl, hb⟩
theorem PostAll.nil {w w' : World} {P P' G G' : List Qr} {M : Nat} {e : Ending} (h : PostAll w [] P P' G G' M e w') :
    ∃ A c, e = .returned (.tuple #[.slice A 0 c, .int .i64 0]) ∧ Below w.heap.size w w' := by
  obtain ⟨v, c, rfl, hb, h⟩ := h
  rcases h with ⟨_, rfl, l, HL, hS, hO⟩ | ⟨hn, _⟩
  · obtain ⟨A, c, rfl, _⟩ := hO.form
    have hl := HL.out
    simp [amts] at hl
    subst hl
    exact ⟨A, c, rfl, hb⟩
  · exact absurd (fun x hx => by cases hx) hn
theorem nilS : ∀ q ∈ ([] : List Qr), q.S ≤ 3 := fun q hq => by cases hq
theorem mxl2 {x y : Int} : [x, y].length ≤ maxLen := by unfold maxLen; simp
theorem mxl1 {x : Int} : [x].length ≤ maxLen := by unfold maxLen; simp
theorem UX2 (x y : Int) (X : World) (T : TypeId) (n : Nat) (hn : n = X.heap.size) (P1 P2 G1 G2 T1 T2 : Option Addr) (a a' b b' p1 p2 g1 g2 t1 t1' t2 t2' : Nat) (P P' G G' : List Qr) (e1 : P.length = a) (e2 : P'.length = a') (e3 : G.length = b) (e4 : G'.length = b')
    (hP : QRow X P1 p1 P) (hP' : QRow X P2 p2 P') (hG : QRow X G1 g1 G) (hG' : QRow X G2 g2 G') (sP : ∀ q ∈ P, q.S ≤ 3) (sP' : ∀ q ∈ P', q.S ≤ 3) (sG : ∀ q ∈ G, q.S ≤ 3) (sG' : ∀ q ∈ G', q.S ≤ 3) :
    Calls Try.prog 28 #[.slice (some ⟨n, 0, none⟩) 2 2, .agg #[.slice P1 a p1, .slice G1 b g1, .slice T1 t1 t1'], .agg #[.slice P2 a' p2, .slice G2 b' g2, .slice T2 t2 t2']] (X.alloc (.cells #[.int .i64 x, .int .i64 y] T)) fun e w' => PostAll X [x, y] P P' G G' 18 e w' := by
  subst e1; subst e2; subst e3; subst e4
  exact (settle_Units_calls _ 2 [x, y] P1 P2 G1 G2 T1 T2 p1 p2 g1 g2 t1 t1' t2 t2' P P' G G' 3 _ (lit64 X T [x, y] _ n rfl hn mxl2) (by simp) (hP.below (bl_alloc _ _)) (hP'.below (bl_alloc _ _)) (hG.below (bl_alloc _ _)) (hG'.below (bl_alloc _ _)) sP sP' sG sG' (by decide) (by decide)).mono fun e w' h => h.up (bl_alloc _ _)
theorem BX2 (x y : Int) (X : World) (T : TypeId) (n : Nat) (hn : n = X.heap.size) (P1 P2 T1 T2 : Option Addr) (a a' p1 p2 t1 t1' t2 t2' : Nat) (P P' : List Qr) (e1 : P.length = a) (e2 : P'.length = a')
    (hP : QRow X P1 p1 P) (hP' : QRow X P2 p2 P') (sP : ∀ q ∈ P, q.S ≤ 3) (sP' : ∀ q ∈ P', q.S ≤ 3) :
    Calls Try.prog 29 #[.slice (some ⟨n, 0, none⟩) 2 2, .agg #[.slice P1 a p1, .slice T1 t1 t1', .slice none 0 0], .agg #[.slice P2 a' p2, .slice T2 t2 t2', .slice none 0 0]] (X.alloc (.cells #[.int .i64 x, .int .i64 y] T)) fun e w' => PostAll X [x, y] P P' [] [] 18 e w' := by
  subst e1; subst e2
  exact (settle_Bids_calls _ 2 [x, y] P1 P2 none none T1 T2 p1 p2 0 0 t1 t1' t2 t2' P P' [] [] 3 _ (lit64 X T [x, y] _ n rfl hn mxl2) (by simp) (hP.below (bl_alloc _ _)) (hP'.below (bl_alloc _ _)) (QRow.nil _) (QRow.nil _) sP sP' (fun q hq => by cases hq) (fun q hq => by cases hq) (by decide) (by decide)).mono fun e w' h => h.up (bl_alloc _ _)
theorem BX1 (x : Int) (X : World) (T : TypeId) (n : Nat) (hn : n = X.heap.size) (P1 P2 T1 T2 : Option Addr) (a a' p1 p2 t1 t1' t2 t2' : Nat) (P P' : List Qr) (e1 : P.length = a) (e2 : P'.length = a')
    (hP : QRow X P1 p1 P) (hP' : QRow X P2 p2 P') (sP : ∀ q ∈ P, q.S ≤ 3) (sP' : ∀ q ∈ P', q.S ≤ 3) :
    Calls Try.prog 29 #[.slice (some ⟨n, 0, none⟩) 1 1, .agg #[.slice P1 a p1, .slice T1 t1 t1', .slice none 0 0], .agg #[.slice P2 a' p2, .slice T2 t2 t2', .slice none 0 0]] (X.alloc (.cells #[.int .i64 x] T)) fun e w' => PostAll X [x] P P' [] [] 18 e w' := by
  subst e1; subst e2
  exact (settle_Bids_calls _ 1 [x] P1 P2 none none T1 T2 p1 p2 0 0 t1 t1' t2 t2' P P' [] [] 3 _ (lit64 X T [x] _ n rfl hn mxl1) (by simp) (hP.below (bl_alloc _ _)) (hP'.below (bl_alloc _ _)) (QRow.nil _) (QRow.nil _) sP sP' (fun q hq => by cases hq) (fun q hq => by cases hq) (by decide) (by decide)).mono fun e w' h => h.up (bl_alloc _ _)
theorem UX0 (X : World) :
    Calls Try.prog 28 #[.slice none 0 0, .agg #[.slice none 0 0, .slice none 0 0, .slice none 0 0], .agg #[.slice none 0 0, .slice none 0 0, .slice none 0 0]] X fun e w' => PostAll X [] [] [] [] [] 18 e w' :=
  settle_Units_calls none 0 [] none none none none none none 0 0 0 0 0 0 0 0 [] [] [] [] 3 X (Row.nil _ _) (by simp) (QRow.nil _) (QRow.nil _) (QRow.nil _) (QRow.nil _) (fun q hq => by cases hq) (fun q hq => by cases hq) (fun q hq => by cases hq) (fun q hq => by cases hq) (by decide) (by decide)
theorem RestX (A B : Option Addr) (a b c d : Nat) (l r : List Qr) (w : World) (e1 : l.length = a) (e2 : r.length = b) (h : QRow w A c l) (h' : QRow w B d r) (hl : ∀ q ∈ l, q.S ≤ 3) (hr : ∀ q ∈ r, q.S ≤ 3) (h1 : a ≤ 3) (h2 : b ≤ 3) :
    Calls Try.prog 41 #[.slice A a c, .slice B b d] w (PostQ w (sumV (l.map Qr.val) - sumV (r.map Qr.val)) 20) := by
  subst e1; subst e2
  refine (settle_Rest_calls A c l B d r 3 w h.isR h'.isR hl hr (by decide) (by omega) (by omega) (by omega)).mono ?_
  rintro e w' ⟨q, v, HQ, hq, h⟩
  exact ⟨q, v, HQ, by omega, h⟩
theorem litR3 (X : World) (T : TypeId) (B1 B3 : Option Addr) (d1 d3 n1 n3 n : Nat) (l1 l3 : List Qr) (h1 : QRow X B1 d1 l1) (h3 : QRow X B3 d3 l3) (hn : n = X.heap.size) (e1 : l1.length = n1) (e3 : l3.length = n3) :
    LRow (X.alloc (.cells #[.slice B1 n1 d1, .slice none 0 0, .slice B3 n3 d3] T)) (some ⟨n, 0, none⟩) 3 [l1, [], l3] := by
  subst hn; subst e1; subst e3
  refine ⟨by simp, by unfold maxLen; omega, (fun e => by cases e), fun _ => ⟨X.heap.size, 0, rfl, fun j r hj => ?_⟩⟩
  match j, hj with
  | 0, hj =>
    simp at hj; subst hj
    exact ⟨B1, d1, by rw [cell_of_row _ _ _ _ _ _ (heap_alloc_new X _)]; rfl, h1.below (bl_alloc _ _)⟩
  | 1, hj =>
    simp at hj; subst hj
    exact ⟨none, 0, by rw [cell_of_row _ _ _ _ _ _ (heap_alloc_new X _)]; rfl, QRow.nil _⟩
  | 2, hj =>
    simp at hj; subst hj
    exact ⟨B3, d3, by rw [cell_of_row _ _ _ _ _ _ (heap_alloc_new X _)]; rfl, h3.below (bl_alloc _ _)⟩
theorem addV3 (a b c : Rat) : addV [] [a, b, c] = [0 + a, 0 + b, 0 + c] := rfl
theorem dayV (l1 l3 : List Qr) (h1 : l1 = inQ [1, 2]) (h3 : l3 = inQ [5, 6, 7]) : ∃ a b c : Rat, sumL [l1, [], l3] = [a, b, c] ∧ a = ((6 : Int) : Rat) ∧ b = ((8 : Int) : Rat) ∧ c = ((7 : Int) : Rat) := by
  subst h1; subst h3
  refine ⟨0 + (canQ ((1 : Int) : Rat)).val + 0 + (canQ ((5 : Int) : Rat)).val, 0 + (canQ ((2 : Int) : Rat)).val + 0 + (canQ ((6 : Int) : Rat)).val, 0 + (canQ ((7 : Int) : Rat)).val, rfl, ?_, ?_, ?_⟩ <;> (simp only [canQ_val]; grind)
theorem DayX (X : World) (T : TypeId) (B1 B3 : Option Addr) (d1 d3 n : Nat) (l1 l3 : List Qr) (hn : n = X.heap.size) (e1 : l1.length = 2) (e3 : l3.length = 3) (h1 : QRow X B1 d1 l1) (h3 : QRow X B3 d3 l3) (s1 : ∀ q ∈ l1, q.S ≤ 3) (s3 : ∀ q ∈ l3, q.S ≤ 3) (v1 : Hid (l1 = inQ [1, 2])) (v3 : Hid (l3 = inQ [5, 6, 7])) :
    Calls Try.prog 44 #[.slice (some ⟨n, 0, none⟩) 3 3] (X.alloc (.cells #[.slice B1 2 d1, .slice none 0 0, .slice B3 3 d3] T)) fun e w' => ∃ g c q r s, e = .returned (.slice (some ⟨g, 0, none⟩) 3 c) ∧ (q.val = ((6 : Int) : Rat) ∧ r.val = ((8 : Int) : Rat) ∧ s.val = ((7 : Int) : Rat)) ∧ (q.S ≤ 24 ∧ r.S ≤ 24 ∧ s.S ≤ 24) ∧ AtQ w' g 0 1 2 3 q ∧ AtQ w' g 4 5 6 7 r ∧ AtQ w' g 8 9 10 11 s ∧ Below X.heap.size X w' := by
  have r := litR3 X T B1 B3 d1 d3 _ _ n l1 l3 h1 h3 hn e1 e3
  refine (settle_Day_calls _ 3 [l1, [], l3] 3 _ r (fun l hl => by simp at hl; rcases hl with rfl | rfl | rfl <;> simp [e1, e3]) (fun l hl => by simp at hl; rcases hl with rfl | rfl | rfl; exact s1; exact (fun q hq => by cases hq); exact s3) (by decide) (by decide) (by simp)).mono ?_
  rintro e w' ⟨l, v, HL, hS, rfl, hO, hb⟩
  obtain ⟨a, b, c, hs, ha, hb', hc⟩ := dayV l1 l3 v1.out v3.out
  have hl := HL.out
  rw [hs] at hl
  simp only [List.map_cons, List.map_nil] at hl
  obtain ⟨A, d, rfl, _⟩ := hO.form
  have hll : l.length = 3 := by rw [hl]; rfl
  obtain ⟨g, rfl⟩ := hO.block (by omega)
  have rr := hO.isR.row.2
  have r0 := rr.atQ 0 (by omega)
  have r1 := rr.atQ 1 (by omega)
  have r2 := rr.atQ 2 (by omega)
  have hS' : ∀ q ∈ l, q.S ≤ 24 := fun q hq => Nat.le_trans (hS q hq) (show 2 ^ 3 * 3 ≤ 24 by decide)
  refine ⟨g, d, _, _, _, by rw [hll], ⟨?_, ?_, ?_⟩, ⟨hS' _ ?_, hS' _ ?_, hS' _ ?_⟩, r0, r1, r2, bl_trans (bl_alloc _ _) hb⟩
  · rw [hl, ← ha]; exact canQ_val _
  · rw [hl, ← hb']; exact canQ_val _
  · rw [hl, ← hc]; exact canQ_val _
  · rw [hl]; simp
  · rw [hl]; simp
  · rw [hl]; simp
theorem xa0 {P P' G G' : List Qr} (h1 : P = inQ [3, -4, 5]) (h2 : P' = inQ [7, 7]) (h3 : G = inQ [2]) (h4 : G' = inQ [0, 1]) : amt [1, 0] P P' G G' 0 = ((-22 : Int) : Rat) := by
  subst h1; subst h2; subst h3; subst h4
  show owedR (canQ ((2 : Int) : Rat)).val (canQ ((-4 : Int) : Rat)).val (canQ ((0 : Int) : Rat)).val (canQ ((7 : Int) : Rat)).val = _
  simp only [canQ_val, owedR]
  grind
theorem xa1 {P P' G G' : List Qr} (h1 : P = inQ [3, -4, 5]) (h2 : P' = inQ [7, 7]) (h3 : G = inQ [2]) (h4 : G' = inQ [0, 1]) : amt [1, 0] P P' G G' 1 = ((7 : Int) : Rat) := by
  subst h1; subst h2; subst h3; subst h4
  show owedR zeroQ.val (canQ ((3 : Int) : Rat)).val (canQ ((1 : Int) : Rat)).val (canQ ((7 : Int) : Rat)).val = _
  simp only [canQ_val, zeroQ_val, owedR]
  grind
theorem xb0 {P P' : List Qr} : amt [1, 1] P P' [] [] 0 = ((0 : Int) : Rat) := by
  show owedR zeroQ.val _ zeroQ.val _ = _
  simp only [zeroQ_val, owedR]
  grind
theorem xb1 {P P' : List Qr} : amt [1, 1] P P' [] [] 1 = ((0 : Int) : Rat) := by
  show owedR zeroQ.val _ zeroQ.val _ = _
  simp only [zeroQ_val, owedR]
  grind
theorem xr1 {l r : List Qr} (h1 : l = inQ [5, 6]) (h2 : r = inQ [1]) : sumV (l.map Qr.val) - sumV (r.map Qr.val) = ((10 : Int) : Rat) := by
  subst h1; subst h2
  show (0 + (canQ ((5 : Int) : Rat)).val + (canQ ((6 : Int) : Rat)).val) - (0 + (canQ ((1 : Int) : Rat)).val) = _
  simp only [canQ_val]
  grind
theorem xr2 {r : List Qr} (h2 : r = inQ [1]) : sumV (([] : List Qr).map Qr.val) - sumV (r.map Qr.val) = ((-1 : Int) : Rat) := by
  subst h2
  show (0 : Rat) - (0 + (canQ ((1 : Int) : Rat)).val) = _
  simp only [canQ_val]
  grind
theorem okX {x y : Int} {P P' : List Qr} {a b : Nat} (e1 : P.length = a) (e2 : P'.length = b) (h : (0 ≤ x ∧ x < a ∧ x < b) ∧ 0 ≤ y ∧ y < a ∧ y < b) : OkAt [x, y] P.length P'.length := fun z hz => by
  rw [e1, e2]; simp at hz; rcases hz with rfl | rfl; exact h.1; exact h.2
theorem nokX {xs : List Int} {x : Int} {P P' : List Qr} {a b : Nat} (e1 : P.length = a) (e2 : P'.length = b) (hx : x ∈ xs) (h : ¬ (0 ≤ x ∧ x < a ∧ x < b)) : ¬ OkAt xs P.length P'.length := fun hk => h (by
  have := hk x hx; rw [e1, e2] at this; exact this)
end Go.Proofs.Ytnmmgegnioihmaa
