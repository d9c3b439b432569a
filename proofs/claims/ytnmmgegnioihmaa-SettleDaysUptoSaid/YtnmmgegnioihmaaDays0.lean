/- Daily sums: the plain laws, the calls on rows written out. -/
import Derived.Test.YtnmmgegnioihmaaSame1
import Derived.Test.YtnmmgegnioihmaaSettA
set_option linter.unusedVariables false
set_option linter.unusedSimpArgs false
namespace Go.Proofs.Ytnmmgegnioihmaa
open Go.RowKit

theorem ext_getD {xs ys : List Rat} (h : xs.length = ys.length) (k : ∀ i, xs.getD i 0 = ys.getD i 0) : xs = ys := by
  refine List.ext_getElem h fun i h1 h2 => ?_
  have := k i
  rw [List.getD_eq_getElem?_getD, List.getD_eq_getElem?_getD, List.getElem?_eq_getElem h1, List.getElem?_eq_getElem h2] at this
  exact this
def sumTo (f : Nat → Rat) : Nat → Rat
  | 0 => 0
  | n + 1 => sumTo f n + f n
theorem sumTo_add (f g : Nat → Rat) (n : Nat) : sumTo (fun k => f k + g k) n = sumTo f n + sumTo g n := by
  induction n with
  | zero => simp [sumTo, Rat.add_zero]
  | succ n ih => simp only [sumTo, ih]; grind
theorem sumTo_congr {f g : Nat → Rat} (h : ∀ k, f k = g k) (n : Nat) : sumTo f n = sumTo g n := by
  have : f = g := funext h
  rw [this]
theorem sumV_eq (xs : List Rat) : ∀ n, xs.length ≤ n → sumV xs = sumTo (fun k => xs.getD k 0) n := by
  have key : ∀ m, ∀ n, (xs.take m).length = m → m ≤ n → sumV (xs.take m) = sumTo (fun k => (xs.take m).getD k 0) m := by
    intro m
    induction m with
    | zero => intro n _ _; simp [sumV, sumTo]
    | succ m ih =>
      intro n h1 h2
      have hm : m < xs.length := by simp at h1; omega
      have hm2 : (xs.take m).length = m := by simp; omega
      rw [List.take_succ_eq_append_getElem hm, sumV_snoc, ih m hm2 (Nat.le_refl _)]
      simp only [sumTo]
      have e1 : (xs.take m ++ [xs[m]]).getD m 0 = xs[m] := by
        rw [List.getD_eq_getElem?_getD, List.getElem?_append_right (by omega), hm2, Nat.sub_self]; rfl
      rw [e1]
      congr 1
      have : ∀ j, j ≤ m → sumTo (fun k => (xs.take m).getD k 0) j = sumTo (fun k => (xs.take m ++ [xs[m]]).getD k 0) j := by
        intro j
        induction j with
        | zero => intro _; rfl
        | succ j ih2 =>
          intro hj
          simp only [sumTo]
          rw [ih2 (by omega)]
          congr 1
          rw [List.getD_eq_getElem?_getD, List.getD_eq_getElem?_getD, List.getElem?_append_left (by omega)]
      exact this m (Nat.le_refl _)
  intro n hn
  have h0 := key xs.length xs.length (by simp) (Nat.le_refl _)
  rw [List.take_length] at h0
  rw [h0]
  obtain ⟨d, rfl⟩ := Nat.le.dest hn
  clear h0 hn key
  induction d with
  | zero => rfl
  | succ d ih =>
    rw [← Nat.add_assoc]
    simp only [sumTo]
    rw [← ih, List.getD_eq_getElem?_getD, List.getElem?_eq_none (by omega)]
    exact (Rat.add_zero _).symm
theorem sumV_addV (xs ys : List Rat) : sumV (addV xs ys) = sumV xs + sumV ys := by
  rw [sumV_eq (addV xs ys) (max xs.length ys.length) (by rw [addV_length]; omega), sumV_eq xs (max xs.length ys.length) (by omega), sumV_eq ys (max xs.length ys.length) (by omega), ← sumTo_add]
  exact sumTo_congr (fun k => addV_getD xs ys k) _
theorem addV_nil (xs : List Rat) : addV [] xs = xs := by
  refine ext_getD (by rw [addV_length]; simp) fun i => ?_
  rw [addV_getD]
  exact Rat.zero_add _
theorem sumL2 (a b : List Qr) : sumL [a, b] = addV (valsR a) (valsR b) := by
  show addV (addV [] (valsR a)) (valsR b) = _
  rw [addV_nil]
theorem sumL3 (a b c : List Qr) : sumL [a, b, c] = addV (addV (valsR a) (valsR b)) (valsR c) := by
  show addV (addV (addV [] (valsR a)) (valsR b)) (valsR c) = _
  rw [addV_nil]
theorem addV_comm (xs ys : List Rat) : addV xs ys = addV ys xs := ext_getD (by rw [addV_length, addV_length]; omega) fun i => by rw [addV_getD, addV_getD, Rat.add_comm]
theorem addV_assoc (xs ys zs : List Rat) : addV (addV xs ys) zs = addV xs (addV ys zs) := ext_getD (by simp only [addV_length]; omega) fun i => by simp only [addV_getD]; rw [Rat.add_assoc]
theorem days_turn (a b c : List Qr) : sumL [c, a, b] = sumL [a, b, c] := by
  rw [sumL3, sumL3, addV_assoc (valsR c), addV_comm (valsR c)]
theorem days_nest (a b c : List Qr) : sumL [(sumL [a, b]).map canQ, c] = sumL [a, b, c] := by
  rw [sumL2, valsR_can, sumL2, sumL3]
theorem days_rest (a b c d : List Qr) : sumV (sumL [a, c]) - sumV (sumL [b, d]) = (sumV (valsR a) - sumV (valsR b)) + (sumV (valsR c) - sumV (valsR d)) := by
  rw [sumL2, sumL2, sumV_addV, sumV_addV]; grind
theorem PostR.up {w w0 w' : World} {xs : List Rat} {B : Nat} {e : Ending} (h : PostR w0 xs B e w') (hb : Below w.heap.size w w0) : PostR w xs B e w' := by
  obtain ⟨l, v, h1, h2, h3, h4, h5⟩ := h
  exact ⟨l, v, h1, h2, h3, h4.mono hb.size, bl_trans hb h5⟩
theorem litRows (X : World) (T : TypeId) (cs : List (Option Addr × Nat × List Qr)) (n : Nat) (h : ∀ t ∈ cs, QRow X t.1 t.2.1 t.2.2) (hn : n = X.heap.size) (hl : cs.length ≤ maxLen) :
    LRow (X.alloc (.cells (cs.map fun t => Value.slice t.1 t.2.2.length t.2.1).toArray T)) (some ⟨n, 0, none⟩) cs.length (cs.map fun t => t.2.2) := by
  subst hn
  refine ⟨by simp, hl, (fun e => by cases e), fun _ => ⟨X.heap.size, 0, rfl, fun j r hj => ?_⟩⟩
  rw [List.getElem?_map] at hj
  obtain ⟨t, ht, rfl⟩ := Option.map_eq_some_iff.1 hj
  refine ⟨t.1, t.2.1, ?_, (h t (List.mem_of_getElem? ht)).below (bl_alloc _ _)⟩
  rw [cell_of_row _ _ _ _ _ _ (heap_alloc_new X _)]
  simp [ht]
theorem litR2 (X : World) (T : TypeId) (B1 B2 : Option Addr) (d1 d2 n1 n2 n : Nat) (l1 l2 : List Qr) (h1 : QRow X B1 d1 l1) (h2 : QRow X B2 d2 l2) (e1 : n1 = l1.length) (e2 : n2 = l2.length) (hn : n = X.heap.size) :
    LRow (X.alloc (.cells #[.slice B1 n1 d1, .slice B2 n2 d2] T)) (some ⟨n, 0, none⟩) 2 [l1, l2] := by
  subst e1; subst e2
  exact litRows X T [(B1, d1, l1), (B2, d2, l2)] n (fun t ht => by simp at ht; rcases ht with rfl | rfl; exact h1; exact h2) hn (by unfold maxLen; simp)
theorem DayW2 (w : World) (n : Nat) (l1 l2 : List Qr) (M : Nat) (r : LRow w (some ⟨n, 0, none⟩) 2 [l1, l2]) (k1 : l1.length ≤ 1048576) (k2 : l2.length ≤ 1048576) (s1 : ∀ q ∈ l1, q.S ≤ M) (s2 : ∀ q ∈ l2, q.S ≤ M) (hM : 1 ≤ M) (hM2 : M ≤ 8589934592) :
    Calls Try.prog 44 #[.slice (some ⟨n, 0, none⟩) 2 2] w (PostR w (sumL [l1, l2]) (4 * M)) :=
  settle_Day_calls _ 2 [l1, l2] M _ r (fun l hl => by simp at hl; rcases hl with rfl | rfl; exact k1; exact k2) (fun l hl => by simp at hl; rcases hl with rfl | rfl; exact s1; exact s2) hM hM2 (by simp)
theorem Day2 (X : World) (T : TypeId) (B1 B2 : Option Addr) (d1 d2 n1 n2 n : Nat) (l1 l2 : List Qr) (M : Nat) (h1 : QRow X B1 d1 l1) (h2 : QRow X B2 d2 l2) (e1 : n1 = l1.length) (e2 : n2 = l2.length) (hn : n = X.heap.size) (k1 : l1.length ≤ 1048576) (k2 : l2.length ≤ 1048576) (s1 : ∀ q ∈ l1, q.S ≤ M) (s2 : ∀ q ∈ l2, q.S ≤ M) (hM : 1 ≤ M) (hM2 : M ≤ 8589934592) :
    Calls Try.prog 44 #[.slice (some ⟨n, 0, none⟩) 2 2] (X.alloc (.cells #[.slice B1 n1 d1, .slice B2 n2 d2] T)) (PostR X (sumL [l1, l2]) (4 * M)) := by
  subst e1; subst e2
  have r := litRows X T [(B1, d1, l1), (B2, d2, l2)] n (fun t ht => by simp at ht; rcases ht with rfl | rfl; exact h1; exact h2) hn (by unfold maxLen; simp)
  exact (settle_Day_calls _ 2 [l1, l2] M _ r (fun l hl => by simp at hl; rcases hl with rfl | rfl; exact k1; exact k2) (fun l hl => by simp at hl; rcases hl with rfl | rfl; exact s1; exact s2) hM hM2 (by simp)).mono fun e w' h => h.up (bl_alloc _ _)
theorem Day3 (X : World) (T : TypeId) (B1 B2 B3 : Option Addr) (d1 d2 d3 n1 n2 n3 n : Nat) (l1 l2 l3 : List Qr) (M : Nat) (h1 : QRow X B1 d1 l1) (h2 : QRow X B2 d2 l2) (h3 : QRow X B3 d3 l3) (e1 : n1 = l1.length) (e2 : n2 = l2.length) (e3 : n3 = l3.length) (hn : n = X.heap.size)
    (k1 : l1.length ≤ 1048576) (k2 : l2.length ≤ 1048576) (k3 : l3.length ≤ 1048576) (s1 : ∀ q ∈ l1, q.S ≤ M) (s2 : ∀ q ∈ l2, q.S ≤ M) (s3 : ∀ q ∈ l3, q.S ≤ M) (hM : 1 ≤ M) (hM2 : M ≤ 8589934592) :
    Calls Try.prog 44 #[.slice (some ⟨n, 0, none⟩) 3 3] (X.alloc (.cells #[.slice B1 n1 d1, .slice B2 n2 d2, .slice B3 n3 d3] T)) (PostR X (sumL [l1, l2, l3]) (8 * M)) := by
  subst e1; subst e2; subst e3
  have r := litRows X T [(B1, d1, l1), (B2, d2, l2), (B3, d3, l3)] n (fun t ht => by simp at ht; rcases ht with rfl | rfl | rfl; exact h1; exact h2; exact h3) hn (by unfold maxLen; simp)
  exact (settle_Day_calls _ 3 [l1, l2, l3] M _ r (fun l hl => by simp at hl; rcases hl with rfl | rfl | rfl; exact k1; exact k2; exact k3) (fun l hl => by simp at hl; rcases hl with rfl | rfl | rfl; exact s1; exact s2; exact s3) hM hM2 (by simp)).mono fun e w' h => h.up (bl_alloc _ _)
theorem LongR4 (X : World) (T : TypeId) (B1 B2 B3 B4 : Option Addr) (d1 d2 d3 d4 n : Nat) (l1 l2 l3 l4 : List Qr) (h1 : QRow X B1 d1 l1) (h2 : QRow X B2 d2 l2) (h3 : QRow X B3 d3 l3) (h4 : QRow X B4 d4 l4) (hn : n = X.heap.size) :
    Calls Try.prog 32 #[.slice (some ⟨n, 0, none⟩) 4 4] (X.alloc (.cells #[.slice B1 l1.length d1, .slice B2 l2.length d2, .slice B3 l3.length d3, .slice B4 l4.length d4] T)) fun e w' => ∃ b, e = .returned (.bool b) ∧ Hid (b = false → l1.length ≤ 40 ∧ l2.length ≤ 40 ∧ l3.length ≤ 40 ∧ l4.length ≤ 40) ∧ Below X.heap.size X w' := by
  have r := litRows X T [(B1, d1, l1), (B2, d2, l2), (B3, d3, l3), (B4, d4, l4)] n (fun t ht => by simp at ht; rcases ht with rfl | rfl | rfl | rfl; exact h1; exact h2; exact h3; exact h4) hn (by unfold maxLen; simp)
  refine (Long_calls _ 4 _ _ r (by simp)).mono ?_
  rintro e w' ⟨b, he, hx, hb⟩
  exact ⟨b, he, Lib.hid fun hf => ⟨hx hf l1 (by simp), hx hf l2 (by simp), hx hf l3 (by simp), hx hf l4 (by simp)⟩, bl_trans (bl_alloc _ _) hb⟩
end Go.Proofs.Ytnmmgegnioihmaa
