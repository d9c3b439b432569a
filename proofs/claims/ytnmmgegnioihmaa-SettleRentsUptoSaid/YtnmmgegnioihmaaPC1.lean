/- SettlePriceChange: the walk. -/
import Derived.Test.YtnmmgegnioihmaaLaw3
import Derived.Test.YtnmmgegnioihmaaLong
import Derived.Deep.CutRange
set_option linter.unusedVariables false
set_option linter.unusedSimpArgs false
namespace Go.Proofs.Ytnmmgegnioihmaa
open Go.RowKit

theorem flat4 {α : Type} (f : α → List Value) (hf : ∀ x, (f x).length = 4) : ∀ (l : List α) (j i : Nat) (x : α), l[j]? = some x → i < 4 → (l.flatMap f)[j * 4 + i]? = (f x)[i]?
  | [], j, i, x, h, _ => by cases h
  | y :: l, 0, i, x, h, hi => by
    simp at h; subst h
    rw [List.flatMap_cons, List.getElem?_append_left (by rw [hf]; omega)]
    simp
  | y :: l, j + 1, i, x, h, hi => by
    rw [List.flatMap_cons, List.getElem?_append_right (by rw [hf]; omega), hf]
    have e : (j + 1) * 4 + i - 4 = j * 4 + i := by omega
    rw [e]
    exact flat4 f hf l j i x (by simpa using h) hi
/-- a slice of rationals that has just been laid -/
theorem litQ (X : World) (T : TypeId) (l : List (Qr × Value × Value)) (hl : ∀ t ∈ l, IsW X t.2.1 t.1.n.ws ∧ IsW X t.2.2 t.1.d.ws) (cs : Array Value) (n : Nat)
    (hcs : cs = (l.flatMap fun t => [.bool t.1.n.neg, t.2.1, .bool t.1.d.neg, t.2.2]).toArray) (hn : n = X.heap.size) (hm : l.length ≤ maxLen) : QRow (X.alloc (.cells cs T)) (some ⟨n, 0, none⟩) l.length (l.map (·.1)) := by
  subst hn
  refine ⟨by simp, hm, (fun e => by cases e), fun _ => ⟨X.heap.size, 0, rfl, fun j q hj => ?_⟩⟩
  rw [List.getElem?_map] at hj
  obtain ⟨t, ht, rfl⟩ := Option.map_eq_some_iff.1 hj
  obtain ⟨h1, h2⟩ := hl t (List.mem_of_getElem? ht)
  have hat := fun i hi => flat4 (fun t : Qr × Value × Value => [Value.bool t.1.n.neg, t.2.1, .bool t.1.d.neg, t.2.2]) (fun _ => rfl) l j i t ht hi
  refine ⟨t.2.1, t.2.2, ?_, ?_, ?_, ?_, h1.below (bl_alloc _ _), h2.below (bl_alloc _ _)⟩ <;> rw [Nat.zero_add, cell_of_row _ _ _ _ _ _ (heap_alloc_new X _)] <;> subst hcs
  · simpa using hat 0 (by omega)
  · simpa using hat 1 (by omega)
  · simpa using hat 2 (by omega)
  · simpa using hat 3 (by omega)
theorem litL (X : World) (T : TypeId) (B : Option Addr) (d m n : Nat) (l : List Qr) (h : QRow X B d l) (hn : n = X.heap.size) (hm : m = l.length) : LRow (X.alloc (.cells #[.slice B m d] T)) (some ⟨n, 0, none⟩) 1 [l] := by
  subst hn; subst hm
  refine ⟨by simp, by unfold maxLen; omega, (fun e => by cases e), fun _ => ⟨X.heap.size, 0, rfl, fun j r hj => ?_⟩⟩
  match j, hj with
  | 0, hj =>
    simp at hj; subst hj
    exact ⟨B, d, by rw [cell_of_row _ _ _ _ _ _ (heap_alloc_new X _)]; rfl, h.below (bl_alloc _ _)⟩
/-- Long, of five numbers -/
theorem Long5 (X : World) (T T' : TypeId) (a b c d e : Qr) (A1 A2 A3 A4 A5 A6 A7 A8 A9 A10 : Option Addr) (m1 m2 m3 m4 m5 m6 m7 m8 m9 m10 c1 c2 c3 c4 c5 c6 c7 c8 c9 c10 : Nat) (n n' : Nat) (hn : n = X.heap.size) (hn' : n' = X.heap.size + 1)
    (ha : IsQ X (.agg #[.bool a.n.neg, .slice A1 m1 c1, .bool a.d.neg, .slice A2 m2 c2]) a) (hb : IsQ X (.agg #[.bool b.n.neg, .slice A3 m3 c3, .bool b.d.neg, .slice A4 m4 c4]) b) (hc : IsQ X (.agg #[.bool c.n.neg, .slice A5 m5 c5, .bool c.d.neg, .slice A6 m6 c6]) c)
    (hd : IsQ X (.agg #[.bool d.n.neg, .slice A7 m7 c7, .bool d.d.neg, .slice A8 m8 c8]) d) (he : IsQ X (.agg #[.bool e.n.neg, .slice A9 m9 c9, .bool e.d.neg, .slice A10 m10 c10]) e) :
    Calls Try.prog 31 #[.slice (some ⟨n', 0, none⟩) 1 1] ((X.alloc (.cells #[.bool a.n.neg, .slice A1 m1 c1, .bool a.d.neg, .slice A2 m2 c2, .bool b.n.neg, .slice A3 m3 c3, .bool b.d.neg, .slice A4 m4 c4, .bool c.n.neg, .slice A5 m5 c5, .bool c.d.neg, .slice A6 m6 c6, .bool d.n.neg, .slice A7 m7 c7, .bool d.d.neg, .slice A8 m8 c8, .bool e.n.neg, .slice A9 m9 c9, .bool e.d.neg, .slice A10 m10 c10] T)).alloc (.cells #[.slice (some ⟨n, 0, none⟩) 5 5] T'))
      fun e w' => ∃ b, e = .returned (.bool b) ∧ Below X.heap.size X w' := by
  have q := litQ X T [(a, .slice A1 m1 c1, .slice A2 m2 c2), (b, .slice A3 m3 c3, .slice A4 m4 c4), (c, .slice A5 m5 c5, .slice A6 m6 c6), (d, .slice A7 m7 c7, .slice A8 m8 c8), (e, .slice A9 m9 c9, .slice A10 m10 c10)] (fun t ht => by
    obtain ⟨_, _, ea, a1, a2⟩ := ha; cases ea
    obtain ⟨_, _, eb, b1, b2⟩ := hb; cases eb
    obtain ⟨_, _, ec, x1, x2⟩ := hc; cases ec
    obtain ⟨_, _, ed, d1, d2⟩ := hd; cases ed
    obtain ⟨_, _, ee, e1, e2⟩ := he; cases ee
    simp only [List.mem_cons, List.not_mem_nil, or_false] at ht
    rcases ht with rfl | rfl | rfl | rfl | rfl
    · exact ⟨a1, a2⟩
    · exact ⟨b1, b2⟩
    · exact ⟨x1, x2⟩
    · exact ⟨d1, d2⟩
    · exact ⟨e1, e2⟩) _ n rfl hn (by unfold maxLen; simp)
  have r := litL _ T' _ 5 5 n' _ q (by rw [hn']; simp) rfl
  refine (Long_calls _ 1 _ _ r (by simp)).mono ?_
  rintro e w' ⟨b, he, _, hb⟩
  exact ⟨b, he, bl_trans (bl_alloc2 (bl_alloc _ _) _) hb⟩
end Go.Proofs.Ytnmmgegnioihmaa
