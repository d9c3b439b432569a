/- SettlePriceChange: the walk. -/
import Derived.Test.YtnmmgegnioihmaaLawA
import Derived.Test.YtnmmgegnioihmaaVecQ
import Derived.Deep.CutRange
set_option linter.unusedVariables false
set_option linter.unusedSimpArgs false
namespace Go.Proofs.Ytnmmgegnioihmaa
open Go.RowKit

theorem flat4 {α : Type} (f : α → List Value) (hf : ∀ x, (f x).length = 4) : ∀ (l : List α) (j i : Nat) (x : α), l[j]? = some x → i < 4 → (l.flatMap f)[j * 4 + i]? = (f x)[i]?
  | [], j, i, x, h, _ => by cases h
  | y :: l, 0, i, x, h, hi => by
    simp at h; subst h
    rw [List.flatMap_cons, List.getElem?_append_left (by rw [hf]; omega)]
    simp
  | y :: l, j + 1, i, x, h, hi => by
    rw [List.flatMap_cons, List.getElem?_append_right (by rw [hf]; omega), hf]
    have e : (j + 1) * 4 + i - 4 = j * 4 + i := by omega
    rw [e]
    exact flat4 f hf l j i x (by simpa using h) hi
/-- a slice of rationals that has just been laid -/
theorem litQ (X : World) (T : TypeId) (l : List (Qr × Value × Value)) (hl : ∀ t ∈ l, IsW X t.2.1 t.1.n.ws ∧ IsW X t.2.2 t.1.d.ws) (cs : Array Value) (n : Nat)
    (hcs : cs = (l.flatMap fun t => [.bool t.1.n.neg, t.2.1, .bool t.1.d.neg, t.2.2]).toArray) (hn : n = X.heap.size) (hm : l.length ≤ maxLen) : QRow (X.alloc (.cells cs T)) (some ⟨n, 0, none⟩) l.length (l.map (·.1)) := by
  subst hn
  refine ⟨by simp, hm, (fun e => by cases e), fun _ => ⟨X.heap.size, 0, rfl, fun j q hj => ?_⟩⟩
  rw [List.getElem?_map] at hj
  obtain ⟨t, ht, rfl⟩ := Option.map_eq_some_iff.1 hj
  obtain ⟨h1, h2⟩ := hl t (List.mem_of_getElem? ht)
  have hat := fun i hi => flat4 (fun t : Qr × Value × Value => [Value.bool t.1.n.neg, t.2.1, .bool t.1.d.neg, t.2.2]) (fun _ => rfl) l j i t ht hi
  refine ⟨t.2.1, t.2.2, ?_, ?_, ?_, ?_, h1.below (bl_alloc _ _), h2.below (bl_alloc _ _)⟩ <;> rw [Nat.zero_add, cell_of_row _ _ _ _ _ _ (heap_alloc_new X _)] <;> subst hcs
  · simpa using hat 0 (by omega)
  · simpa using hat 1 (by omega)
  · simpa using hat 2 (by omega)
  · simpa using hat 3 (by omega)
theorem litL (X : World) (T : TypeId) (B : Option Addr) (d m n : Nat) (l : List Qr) (h : QRow X B d l) (hn : n = X.heap.size) (hm : m = l.length) : LRow (X.alloc (.cells #[.slice B m d] T)) (some ⟨n, 0, none⟩) 1 [l] := by
  subst hn; subst hm
  refine ⟨by simp, by unfold maxLen; omega, (fun e => by cases e), fun _ => ⟨X.heap.size, 0, rfl, fun j r hj => ?_⟩⟩
  match j, hj with
  | 0, hj =>
    simp at hj; subst hj
    exact ⟨B, d, by rw [cell_of_row _ _ _ _ _ _ (heap_alloc_new X _)]; rfl, h.below (bl_alloc _ _)⟩
/-- Long, of five numbers -/
theorem Long5 (X : World) (T T' : TypeId) (a b c d e : Qr) (A1 A2 A3 A4 A5 A6 A7 A8 A9 A10 : Option Addr) (m1 m2 m3 m4 m5 m6 m7 m8 m9 m10 c1 c2 c3 c4 c5 c6 c7 c8 c9 c10 : Nat) (n n' : Nat) (hn : n = X.heap.size) (hn' : n' = X.heap.size + 1)
    (ha : IsQ X (.agg #[.bool a.n.neg, .slice A1 m1 c1, .bool a.d.neg, .slice A2 m2 c2]) a) (hb : IsQ X (.agg #[.bool b.n.neg, .slice A3 m3 c3, .bool b.d.neg, .slice A4 m4 c4]) b) (hc : IsQ X (.agg #[.bool c.n.neg, .slice A5 m5 c5, .bool c.d.neg, .slice A6 m6 c6]) c)
    (hd : IsQ X (.agg #[.bool d.n.neg, .slice A7 m7 c7, .bool d.d.neg, .slice A8 m8 c8]) d) (he : IsQ X (.agg #[.bool e.n.neg, .slice A9 m9 c9, .bool e.d.neg, .slice A10 m10 c10]) e) :
    Calls Try.prog 32 #[.slice (some ⟨n', 0, none⟩) 1 1] ((X.alloc (.cells #[.bool a.n.neg, .slice A1 m1 c1, .bool a.d.neg, .slice A2 m2 c2, .bool b.n.neg, .slice A3 m3 c3, .bool b.d.neg, .slice A4 m4 c4, .bool c.n.neg, .slice A5 m5 c5, .bool c.d.neg, .slice A6 m6 c6, .bool d.n.neg, .slice A7 m7 c7, .bool d.d.neg, .slice A8 m8 c8, .bool e.n.neg, .slice A9 m9 c9, .bool e.d.neg, .slice A10 m10 c10] T)).alloc (.cells #[.slice (some ⟨n, 0, none⟩) 5 5] T'))
      fun e w' => ∃ b, e = .returned (.bool b) ∧ Below X.heap.size X w' := by
  have q := litQ X T [(a, .slice A1 m1 c1, .slice A2 m2 c2), (b, .slice A3 m3 c3, .slice A4 m4 c4), (c, .slice A5 m5 c5, .slice A6 m6 c6), (d, .slice A7 m7 c7, .slice A8 m8 c8), (e, .slice A9 m9 c9, .slice A10 m10 c10)] (fun t ht => by
    obtain ⟨_, _, ea, a1, a2⟩ := ha; cases ea
    obtain ⟨_, _, eb, b1, b2⟩ := hb; cases eb
    obtain ⟨_, _, ec, x1, x2⟩ := hc; cases ec
    obtain ⟨_, _, ed, d1, d2⟩ := hd; cases ed
    obtain ⟨_, _, ee, e1, e2⟩ := he; cases ee
    simp only [List.mem_cons, List.not_mem_nil, or_false] at ht
    rcases ht with rfl | rfl | rfl | rfl | rfl
    · exact ⟨a1, a2⟩
    · exact ⟨b1, b2⟩
    · exact ⟨x1, x2⟩
    · exact ⟨d1, d2⟩
    · exact ⟨e1, e2⟩) _ n rfl hn (by unfold maxLen; simp)
  have r := litL _ T' _ 5 5 n' _ q (by rw [hn']; simp) rfl
  refine (Long_calls _ 1 _ _ r (by simp)).mono ?_
  rintro e w' ⟨b, he, _, hb⟩
  exact ⟨b, he, bl_trans (bl_alloc2 (bl_alloc _ _) _) hb⟩
end Go.Proofs.Ytnmmgegnioihmaa
namespace Go.Proofs.Ytnmmgegnioihmaa
open Go.RowKit

/-- a number in a box of its own -/
def CutQ (w : World) (x : Rat) (B : Nat) (t : Value) (W : World) : Prop := ∃ k q A1 c1 A2 c2, t = .pointer (some ⟨k, 0, none⟩) ∧ Hid (q = canQ x) ∧ q.S ≤ B ∧
  (W.cell? ⟨k, 0, none⟩ = some (.bool q.n.neg) ∧ W.cell? ⟨k, 1, none⟩ = some (.slice A1 q.n.ws.length c1) ∧ W.cell? ⟨k, 2, none⟩ = some (.bool q.d.neg) ∧ W.cell? ⟨k, 3, none⟩ = some (.slice A2 q.d.ws.length c2)) ∧
  IsQ W (.agg #[.bool q.n.neg, .slice A1 q.n.ws.length c1, .bool q.d.neg, .slice A2 q.d.ws.length c2]) q ∧ Below w.heap.size w W
abbrev BoxQ (w : World) (k : Nat) (q : Qr) (A1 : Option Addr) (c1 : Nat) (A2 : Option Addr) (c2 : Nat) : Prop := Box4 w w (fun _ => False) k (.bool q.n.neg) (.slice A1 q.n.ws.length c1) (.bool q.d.neg) (.slice A2 q.d.ws.length c2)
theorem BoxQ.up {w w' : World} {k : Nat} {q : Qr} {A1 : Option Addr} {c1 : Nat} {A2 : Option Addr} {c2 : Nat} (h : BoxQ w k q A1 c1 A2 c2) (hb : Below w.heap.size w w') : BoxQ w' k q A1 c1 A2 c2 := by
  obtain ⟨h0, h1, h2, h3⟩ := h w (Fr.start (Below.refl _ _))
  exact Box4.mk (fun h => h) ⟨bl_cell hb h0, bl_cell hb h1, bl_cell hb h2, bl_cell hb h3⟩
theorem isQ_ag {n0 : Nat} {w W : World} {v : Value} {q : Qr} (h : NQ n0 w v q) (hk : ∀ k, k < w.heap.size → n0 ≤ k → W.heap[k]? = w.heap[k]?) : IsQ W v q := by
  obtain ⟨v1, v2, e, h1, h2⟩ := h
  exact ⟨v1, v2, e, h1.sameF hk, h2.sameF hk⟩
set_option maxHeartbeats 8000000 in
theorem priceChange_calls (va vp vr vn vk : Value) (a p r n k : Qr) (M : Nat) (w : World) (ha : IsQ w va a) (hp : IsQ w vp p) (hr : IsQ w vr r) (hn : IsQ w vn n) (hk : IsQ w vk k) (sa : a.S ≤ M) (sp : p.S ≤ M) (sr : r.S ≤ M) (sn : n.S ≤ M) (sk : k.S ≤ M) (hM : M ≤ 1099511627) :
    Calls Try.prog 6 #[va, vp, vr, vn, vk] w fun e w' => e = .returned (.bool true) ∧ Below w.heap.size w w' := by
  have hA := ha
  have hP := hp
  have hR := hr
  have hN := hn
  have hK := hk
  obtain ⟨A1, c1, A2, c2, rfl⟩ := ha.slices
  obtain ⟨A3, c3, A4, c4, rfl⟩ := hp.slices
  obtain ⟨A5, c5, A6, c6, rfl⟩ := hr.slices
  obtain ⟨A7, c7, A8, c8, rfl⟩ := hn.slices
  obtain ⟨A9, c9, A10, c10, rfl⟩ := hk.slices
  have HS := Lib.hid (And.intro sa (And.intro sp (And.intro sr (And.intro sn (And.intro sk hM)))))
  clear sa sp sr sn sk hM ha hp hr hn hk
  go_enter Try.func6, Try.ntmps6
  go_upto_region 1 with fail
  generalize hw0 : World.alloc _ _ = w0
  have hb0 : Below w.heap.size w w0 := by subst hw0; exact bl_alloc2 (bl_alloc2 (bl_alloc2 (bl_alloc2 (bl_alloc _ _) _) _) _) _
  have t1 : BoxQ w0 w.heap.size a A1 c1 A2 c2 := Box4.mk (fun h => h) (by subst hw0; refine ⟨?_, ?_, ?_, ?_⟩ <;> go_simp)
  have t2 : BoxQ w0 (w.heap.size + 1) p A3 c3 A4 c4 := Box4.mk (fun h => h) (by subst hw0; refine ⟨?_, ?_, ?_, ?_⟩ <;> go_simp)
  have t3 : BoxQ w0 (w.heap.size + 2) r A5 c5 A6 c6 := Box4.mk (fun h => h) (by subst hw0; refine ⟨?_, ?_, ?_, ?_⟩ <;> go_simp)
  have t4 : BoxQ w0 (w.heap.size + 3) n A7 c7 A8 c8 := Box4.mk (fun h => h) (by subst hw0; refine ⟨?_, ?_, ?_, ?_⟩ <;> go_simp)
  have t5 : BoxQ w0 (w.heap.size + 4) k A9 c9 A10 c10 := Box4.mk (fun h => h) (by subst hw0; refine ⟨?_, ?_, ?_, ?_⟩ <;> go_simp)
  clear hw0
  have f0 : Fr w0 w0 (fun _ => False) w0 := Fr.start (Below.refl _ _)
  obtain ⟨x0, x1, x2, x3⟩ := t1 _ f0
  obtain ⟨x4, x5, x6, x7⟩ := t2 _ f0
  obtain ⟨x8, x9, x10, x11⟩ := t3 _ f0
  obtain ⟨x12, x13, x14, x15⟩ := t4 _ f0
  obtain ⟨x16, x17, x18, x19⟩ := t5 _ f0
  go_wp2_with (first
    | (go_at_call 39; (with_reducible refine (settle_Owed_calls _ _ _ _ a p r n _ (hA.below (bl_trans hb0 n2)) (hP.below (bl_trans hb0 n2)) (hR.below (bl_trans hb0 n2)) (hN.below (bl_trans hb0 n2)) (by have := HS.out; omega)).mono ?_); rintro e w3 ⟨q3, u3, HQ3, hS3, rfl, hN3, hb3⟩; have hq3 := hN3.is; obtain ⟨D1, d1, D2, d2, rfl⟩ := hq3.slices)
    | (go_at_call 26; have _h := hb1; (with_reducible refine (awake36_calls _).mono ?_); rintro e w2 ⟨rfl, hb2⟩; have n2 := bl_trans hb1 hb2; obtain ⟨X0, X1, X2, X3⟩ := t1.up n2 _ (Fr.start (Below.refl _ _)); obtain ⟨X4, X5, X6, X7⟩ := t2.up n2 _ (Fr.start (Below.refl _ _)); obtain ⟨X8, X9, X10, X11⟩ := t3.up n2 _ (Fr.start (Below.refl _ _)); obtain ⟨X12, X13, X14, X15⟩ := t4.up n2 _ (Fr.start (Below.refl _ _)))
    | (go_at_call 32; (with_reducible refine (Long5 _ _ _ a p r n k _ _ _ _ _ _ _ _ _ _ _ _ _ _ _ _ _ _ _ _ _ _ _ _ _ _ _ _ _ _ _ _ rfl (by simp) (hA.below hb0) (hP.below hb0) (hR.below hb0) (hN.below hb0) (hK.below hb0)).mono ?_); rintro e w1 ⟨b, rfl, hb1⟩; cases b))
  rotate_left
  · exact bodyPost_ret (v := .bool true) (by simp [results, Try.results6, go_sem]) rfl ⟨rfl, bl_trans hb0 n2⟩
  clear x0 x1 x2 x3 x4 x5 x6 x7 x8 x9 x10 x11 x12 x13 x14 x15 x16 x17 x18 x19 X0 X1 X2 X3 X4 X5 X6 X7 X8 X9 X10 X11 X12 X13 X14 X15 hN3 f0
  have n3 := bl_trans hb0 (bl_trans n2 hb3)
  have t6 : BoxQ (w3.alloc (.cells #[.bool q3.n.neg, .slice D1 q3.n.ws.length d1, .bool q3.d.neg, .slice D2 q3.d.ws.length d2] 43)) w3.heap.size q3 D1 d1 D2 d2 := Box4.mk (fun h => h) (by refine ⟨?_, ?_, ?_, ?_⟩ <;> go_simp)
  have n4 : Below w3.heap.size w3 (w3.alloc (.cells #[.bool q3.n.neg, .slice D1 q3.n.ws.length d1, .bool q3.d.neg, .slice D2 q3.d.ws.length d2] 43)) := bl_alloc _ _
  generalize hw4 : World.alloc w3 _ = w4 at t6 n4 ⊢
  clear hw4
  replace hq3 := hq3.below n4
  replace t1 := t1.up (bl_trans n2 (bl_trans hb3 n4))
  replace t2 := t2.up (bl_trans n2 (bl_trans hb3 n4))
  replace t3 := t3.up (bl_trans n2 (bl_trans hb3 n4))
  replace t4 := t4.up (bl_trans n2 (bl_trans hb3 n4))
  replace t5 := t5.up (bl_trans n2 (bl_trans hb3 n4))
  have n5 := bl_trans n3 n4
  clear n4
  replace hA := hA.below n5
  replace hP := hP.below n5
  replace hR := hR.below n5
  replace hN := hN.below n5
  replace hK := hK.below n5
  clear n2 n3 hb0 hb1 hb2 hb3 _h
  generalize w3.heap.size = k11 at *
  go_upto_region 4 with fail
  go_cut [12] from 32 to 38 (fun t wx => CutQ w4 (owedR a.val (p.val + k.val) r.val n.val) (6 * M) t wx)
  case first =>
    have f00 : Fr w4 w4 (fun _ => False) w4 := Fr.start (Below.refl _ _)
    go_region_held3 (fun W => Fr w4 w4 (fun _ => False) W) (with_reducible (first | assumption | (refine Fr.set4 (Below.refl _ _) ?_ ?_; (focus (first | assumption)); (have := f6.size; have := f5.size; first | omega | exact Nat.le_refl _ | (simp; omega))) | exact Fr.drew (by assumption) | exact Fr.call (by assumption) (by assumption) | exact Fr.call (by assumption) (bl_alloc _ _))) (first
      | (go_at_call 39; (with_reducible refine (settle_Owed_calls _ _ _ _ a q5 r n _ (hA.below (Fr.b (by assumption))) (hq5.below (by first | exact Below.refl _ _ | exact bl_alloc _ _)) (hR.below (Fr.b (by assumption))) (hN.below (Fr.b (by assumption))) (by have := HS.out; omega)).mono ?_); rintro e w6 ⟨q6, u6, HQ6, hS6, rfl, hN6, hb6⟩; have hq6 := hN6.is; obtain ⟨E1, e1, E2, e2, rfl⟩ := hq6.slices; have f6 := Fr.call (by assumption) hb6; rw [HQ5.out, canQ_val] at HQ6; (try (refine absorb (A := Four (w4.heap.size) w6) ?_ ?_; (focus (refine Four.below ?_ hb6; ((repeat (first | (with_reducible exact Fa) | (with_reducible (refine Four.alloc _ _ _ _ _ ?_); first | rfl | (simp; done)) | (with_reducible refine Four.drew ?_) | (with_reducible refine Four.below ?_ (bl_alloc _ _)))); done))); intro Fc)); (try (refine absorb (A := Four (w5.heap.size) w6) ?_ ?_; (focus (refine Four.below ?_ hb6; ((repeat (first | (with_reducible (refine Four.alloc _ _ _ _ _ ?_); first | rfl | (simp; done)) | (with_reducible refine Four.drew ?_) | (with_reducible refine Four.below ?_ (bl_alloc _ _)))); done))); intro Fe)); (try (obtain ⟨_, _, _, _, _, _, _, _, _, _, _, _, _, _, _, _, _, _, _, _, _⟩ := Four.facts Fc; have := Nat.ne_of_lt (Four.lt Fc); have := Nat.ne_of_gt (Four.lt Fc))); (try (obtain ⟨_, _, _, _, _, _, _, _, _, _, _, _, _, _, _, _, _, _, _, _, _⟩ := Four.facts Fe; have := Nat.ne_of_lt (Four.lt Fe); have := Nat.ne_of_gt (Four.lt Fe))))
      | (go_at_call 38; (with_reducible refine (frac_Add_calls _ _ p k _ (hP.below (Fr.b (by assumption))) (hK.below (Fr.b (by assumption))) (by have := HS.out; omega)).mono ?_); rintro e w5 ⟨q5, u5, HQ5, hS5, rfl, hN5, hb5⟩; have hq5 := hN5.is; obtain ⟨G1, g1, G2, g2, rfl⟩ := hq5.slices; have f5 := Fr.call (by assumption) hb5; (try (refine absorb (A := Four (w4.heap.size) w5) ?_ ?_; (focus (refine Four.below ?_ hb5; ((repeat (first | (with_reducible (refine Four.alloc _ _ _ _ _ ?_); first | rfl | (simp; done)) | (with_reducible refine Four.drew ?_) | (with_reducible refine Four.below ?_ (bl_alloc _ _)))); done))); intro Fa; have := Nat.ne_of_lt (Four.lt Fa); have := Nat.ne_of_gt (Four.lt Fa)))))
    all_goals (go_wp2_with fail; go_meet)
    all_goals (have s5 := hb5.size; have s6 := hb6.size; (try simp at s5); (try simp at s6))
    all_goals (refine ⟨_, q6, E1, e1, E2, e2, rfl, HQ6, by have := HS.out; omega, And.intro ?_ (And.intro ?_ (And.intro ?_ ?_)), isQ_ag hN6 ?_, Fr.b (by assumption)⟩)
    all_goals (first | (intro k hk hor; (try simp at hor); (repeat' (first | (with_reducible rfl) | (with_reducible refine ag_set ?_ ?_) | (with_reducible refine ag_alloc ?_ ?_) | (with_reducible refine ag_drew ?_))); all_goals (first | omega | (simp; omega))) | go_simp)
  case rest =>
    obtain ⟨k12, q7, F1, f1, F2, f2, rfl, HQ7, hS7, y7, hq7, hbc⟩ := hcut
    have t7 : BoxQ wc k12 q7 F1 f1 F2 f2 := Box4.mk (fun h => h) y7
    replace t1 := t1.up hbc
    replace t2 := t2.up hbc
    replace t3 := t3.up hbc
    replace t4 := t4.up hbc
    replace t5 := t5.up hbc
    replace t6 := t6.up hbc
    replace hq3 := hq3.below hbc
    replace hA := hA.below hbc
    replace hP := hP.below hbc
    replace hR := hR.below hbc
    replace hN := hN.below hbc
    replace hK := hK.below hbc
    replace n5 := bl_trans n5 hbc
    clear hbc y7
    obtain ⟨w8, rfl⟩ : ∃ w8 : World, w8 = wc := ⟨_, rfl⟩
    go_upto_region 5 with fail
    go_cut [13] from 39 to 45 (fun t wx => CutQ w8 (owedR a.val p.val r.val (n.val + k.val)) (6 * M) t wx)
    case first =>
      have f00 : Fr w8 w8 (fun _ => False) w8 := Fr.start (Below.refl _ _)
      go_region_held3 (fun W => Fr w8 w8 (fun _ => False) W) (with_reducible (first | assumption | (refine Fr.set4 (Below.refl _ _) ?_ ?_; (focus (first | assumption)); (have := f6.size; have := f5.size; first | omega | exact Nat.le_refl _ | (simp; omega))) | exact Fr.drew (by assumption) | exact Fr.call (by assumption) (by assumption) | exact Fr.call (by assumption) (bl_alloc _ _))) (first
        | (go_at_call 39; (with_reducible refine (settle_Owed_calls _ _ _ _ a p r q5 _ (hA.below (Fr.b (by assumption))) (hP.below (Fr.b (by assumption))) (hR.below (Fr.b (by assumption))) (hq5.below (by first | exact Below.refl _ _ | exact bl_alloc _ _)) (by have := HS.out; omega)).mono ?_); rintro e w6 ⟨q6, u6, HQ6, hS6, rfl, hN6, hb6⟩; have hq6 := hN6.is; obtain ⟨E1, e1, E2, e2, rfl⟩ := hq6.slices; have f6 := Fr.call (by assumption) hb6; rw [HQ5.out, canQ_val] at HQ6; (try (refine absorb (A := Four (w8.heap.size) w6) ?_ ?_; (focus (refine Four.below ?_ hb6; ((repeat (first | (with_reducible exact Fa) | (with_reducible (refine Four.alloc _ _ _ _ _ ?_); first | rfl | (simp; done)) | (with_reducible refine Four.drew ?_) | (with_reducible refine Four.below ?_ (bl_alloc _ _)))); done))); intro Fc)); (try (refine absorb (A := Four (w5.heap.size) w6) ?_ ?_; (focus (refine Four.below ?_ hb6; ((repeat (first | (with_reducible (refine Four.alloc _ _ _ _ _ ?_); first | rfl | (simp; done)) | (with_reducible refine Four.drew ?_) | (with_reducible refine Four.below ?_ (bl_alloc _ _)))); done))); intro Fe)); (try (obtain ⟨_, _, _, _, _, _, _, _, _, _, _, _, _, _, _, _, _, _, _, _, _⟩ := Four.facts Fc; have := Nat.ne_of_lt (Four.lt Fc); have := Nat.ne_of_gt (Four.lt Fc))); (try (obtain ⟨_, _, _, _, _, _, _, _, _, _, _, _, _, _, _, _, _, _, _, _, _⟩ := Four.facts Fe; have := Nat.ne_of_lt (Four.lt Fe); have := Nat.ne_of_gt (Four.lt Fe))))
        | (go_at_call 38; (with_reducible refine (frac_Add_calls _ _ n k _ (hN.below (Fr.b (by assumption))) (hK.below (Fr.b (by assumption))) (by have := HS.out; omega)).mono ?_); rintro e w5 ⟨q5, u5, HQ5, hS5, rfl, hN5, hb5⟩; have hq5 := hN5.is; obtain ⟨G1, g1, G2, g2, rfl⟩ := hq5.slices; have f5 := Fr.call (by assumption) hb5; (try (refine absorb (A := Four (w8.heap.size) w5) ?_ ?_; (focus (refine Four.below ?_ hb5; ((repeat (first | (with_reducible (refine Four.alloc _ _ _ _ _ ?_); first | rfl | (simp; done)) | (with_reducible refine Four.drew ?_) | (with_reducible refine Four.below ?_ (bl_alloc _ _)))); done))); intro Fa; have := Nat.ne_of_lt (Four.lt Fa); have := Nat.ne_of_gt (Four.lt Fa)))))
      all_goals (go_wp2_with fail; go_meet)
      all_goals (have s5 := hb5.size; have s6 := hb6.size; (try simp at s5); (try simp at s6))
      all_goals (refine ⟨_, q6, E1, e1, E2, e2, rfl, HQ6, by have := HS.out; omega, And.intro ?_ (And.intro ?_ (And.intro ?_ ?_)), isQ_ag hN6 ?_, Fr.b (by assumption)⟩)
      all_goals (first | (intro k hk hor; (try simp at hor); (repeat' (first | (with_reducible rfl) | (with_reducible refine ag_set ?_ ?_) | (with_reducible refine ag_alloc ?_ ?_) | (with_reducible refine ag_drew ?_))); all_goals (first | omega | (simp; omega))) | go_simp)
    case rest =>
      obtain ⟨k13, q8, F3, f3, F4, f4, rfl, HQ8, hS8, y8, hq8, hbc⟩ := hcut
      have t8 : BoxQ wc k13 q8 F3 f3 F4 f4 := Box4.mk (fun h => h) y8
      replace t1 := t1.up hbc
      replace t2 := t2.up hbc
      replace t3 := t3.up hbc
      replace t4 := t4.up hbc
      replace t5 := t5.up hbc
      replace t6 := t6.up hbc
      replace t7 := t7.up hbc
      replace hq3 := hq3.below hbc
      replace hA := hA.below hbc
      replace hP := hP.below hbc
      replace hR := hR.below hbc
      replace hN := hN.below hbc
      replace hK := hK.below hbc
      replace hq7 := hq7.below hbc
      replace n5 := bl_trans n5 hbc
      clear hbc y8
      have f0 : Fr wc wc (fun _ => False) wc := Fr.start (Below.refl _ _)
      go_upto_region 6 with fail
      go_region_held3 (fun W => Fr wc wc (fun _ => False) W) (first | assumption | exact Fr.drew (by assumption) | exact Fr.call (by assumption) (by assumption)) (first
        | (go_at_call 34; (with_reducible refine (frac_Equal_calls _ _ z8 z9 _ (hz8.below hb19) hz9 (by have := HS.out; omega)).mono ?_); rintro e w20 ⟨rfl, hb20⟩; rw [decide_eq_true (by rw [HZ8.out, HZ9.out]; simp only [canQ_val, owedR]; grind)]; have f20 := Fr.call (by assumption) hb20)
        | (go_at_call 35; have _h := hb18; (with_reducible refine (frac_Mul_calls _ _ a p _ (hA.below (Fr.b (by assumption))) (hP.below (Fr.b (by assumption))) (by have := HS.out; omega)).mono ?_); rintro e w19 ⟨z9, u9, HZ9, hT9, rfl, hV9, hb19⟩; have hz9 := hV9.is; obtain ⟨I9, i9, J9, j9, rfl⟩ := hz9.slices)
        | (go_at_call 39; have _h := hb17; (with_reducible refine (settle_Owed_calls _ _ _ _ a p a n _ (hA.below (Fr.b (by assumption))) (hP.below (Fr.b (by assumption))) (hA.below (Fr.b (by assumption))) (hN.below (Fr.b (by assumption))) (by have := HS.out; omega)).mono ?_); rintro e w18 ⟨z8, u8, HZ8, hT8, rfl, hV8, hb18⟩; have hz8 := hV8.is; obtain ⟨I8, i8, J8, j8, rfl⟩ := hz8.slices)
        | (go_at_call 34; (with_reducible refine (frac_Equal_calls _ _ z4 z6 _ (hz4.below (bl_trans hb15 hb16)) hz6 (by have := HS.out; omega)).mono ?_); rintro e w17 ⟨rfl, hb17⟩; rw [decide_eq_true (by rw [HZ4.out, HZ6.out, HZ5.out, HQ8.out, HQ3.out]; simp only [canQ_val, owedR]; grind)])
        | (go_at_call 35; have _h := hb15; (with_reducible refine (frac_Mul_calls _ _ k z5 _ (hK.below (Fr.b (by assumption))) hz5 (by have := HS.out; omega)).mono ?_); rintro e w16 ⟨z6, u6, HZ6, hT6, rfl, hV6, hb16⟩; have hz6 := hV6.is; obtain ⟨I6, i6, J6, j6, rfl⟩ := hz6.slices)
        | (go_at_call 37; have _h := hb14; (with_reducible refine (frac_Sub_calls _ _ r a _ (hR.below (Fr.b (by assumption))) (hA.below (Fr.b (by assumption))) (by have := HS.out; omega)).mono ?_); rintro e w15 ⟨z5, u5, HZ5, hT5, rfl, hV5, hb15⟩; have hz5 := hV5.is; obtain ⟨I5, i5, J5, j5, rfl⟩ := hz5.slices)
        | (go_at_call 37; have _h := hb13; (with_reducible refine (frac_Sub_calls _ _ q8 q3 _ (hq8.below (Fr.b (by assumption))) (hq3.below (Fr.b (by assumption))) (by have := HS.out; omega)).mono ?_); rintro e w14 ⟨z4, u4, HZ4, hT4, rfl, hV4, hb14⟩; have hz4 := hV4.is; obtain ⟨I4, i4, J4, j4, rfl⟩ := hz4.slices)
        | (go_at_call 34; (with_reducible refine (frac_Equal_calls _ _ z1 z2 _ (hz1.below hb12) hz2 (by have := HS.out; omega)).mono ?_); rintro e w13 ⟨rfl, hb13⟩; rw [decide_eq_true (by rw [HZ1.out, HZ2.out, HQ7.out, HQ3.out]; simp only [canQ_val, owedR]; grind)])
        | (go_at_call 35; have _h := hb11; (with_reducible refine (frac_Mul_calls _ _ k a _ (hK.below (Fr.b (by assumption))) (hA.below (Fr.b (by assumption))) (by have := HS.out; omega)).mono ?_); rintro e w12 ⟨z2, u2, HZ2, hT2, rfl, hV2, hb12⟩; have hz2 := hV2.is; obtain ⟨I2, i2, J2, j2, rfl⟩ := hz2.slices)
        | (go_at_call 37; (with_reducible refine (frac_Sub_calls _ _ q7 q3 _ (hq7.below (Fr.b (by assumption))) (hq3.below (Fr.b (by assumption))) (by have := HS.out; omega)).mono ?_); rintro e w11 ⟨z1, u1, HZ1, hT1, rfl, hV1, hb11⟩; have hz1 := hV1.is; obtain ⟨I1, i1, J1, j1, rfl⟩ := hz1.slices))
      go_wp2
      exact bodyPost_ret (v := .bool true) (by simp [results, Try.results6, go_sem]) rfl ⟨rfl, bl_trans n5 f20.b⟩
end Go.Proofs.Ytnmmgegnioihmaa
