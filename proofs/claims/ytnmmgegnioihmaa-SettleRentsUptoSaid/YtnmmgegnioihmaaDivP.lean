/- Plain numbers: division, word by word. No program in sight. -/
import Derived.Test.YtnmmgegnioihmaaMulP
set_option linter.unusedVariables false
set_option linter.unusedSimpArgs false
namespace Go.Proofs.Ytnmmgegnioihmaa

theorem val_drop (us : List Nat) {j : Nat} (h : j < us.length) : val (us.drop j) = us.getD j 0 + 4294967296 * val (us.drop (j + 1)) := by
  rw [List.drop_eq_getElem_cons h, val_cons, List.getD_eq_getElem?_getD, List.getElem?_eq_getElem h]; rfl
theorem drop_set_ge (qs : List Nat) {j k : Nat} (v : Nat) (h : j < k) : (qs.set j v).drop k = qs.drop k := List.drop_set_of_lt h
/-- k words from the top are done: the quotient's words qs, the remainder r -/
structure Small (us : List Nat) (n k : Nat) (qs : List Nat) (r : Nat) : Prop where
  len : qs.length = us.length
  rng : Rng qs
  lt : r < n
  eq : val (us.drop (us.length - k)) = val (qs.drop (us.length - k)) * n + r
theorem Small.start (us : List Nat) {n : Nat} (hn : 0 < n) : Small us n 0 (List.replicate us.length 0) 0 :=
  ⟨by simp, Rng.replicate _, hn, by simp [val]⟩
theorem small_ring {u B a b n r q r2 : Nat} (h : a = b * n + r) (h2 : r * B + u = q * n + r2) : u + B * a = (q + B * b) * n + r2 := by
  subst h
  have e1 : B * (b * n + r) = B * b * n + r * B := by rw [Nat.mul_add, Nat.mul_assoc, Nat.mul_comm r]
  rw [e1, Nat.add_mul]
  omega
theorem Small.step {us qs : List Nat} {n k r : Nat} (h : Small us n k qs r) (hu : Rng us) (hk : k < us.length) :
    Small us n (k + 1) (qs.set (us.length - 1 - k) (((r * 4294967296 + us.getD (us.length - 1 - k) 0) / n) % 4294967296)) ((r * 4294967296 + us.getD (us.length - 1 - k) 0) % n) := by
  have hd1 : us.length - (k + 1) = us.length - 1 - k := by omega
  have hd2 : us.length - 1 - k + 1 = us.length - k := by omega
  have hlt := hu.getD (us.length - 1 - k)
  have hr := h.lt
  have hq : (r * 4294967296 + us.getD (us.length - 1 - k) 0) / n < 4294967296 := by
    rw [Nat.div_lt_iff_lt_mul (by omega)]
    have : (r + 1) * 4294967296 ≤ n * 4294967296 := Nat.mul_le_mul_right _ hr
    rw [Nat.mul_comm 4294967296 n]
    omega
  refine ⟨by simp [h.len], h.rng.set _ (Nat.mod_lt _ (by omega)), Nat.mod_lt _ (by omega), ?_⟩
  rw [hd1, val_drop us (show us.length - 1 - k < us.length by omega), hd2, val_drop (qs.set _ _) (show us.length - 1 - k < (qs.set _ _).length by rw [List.length_set, h.len]; omega), getD_set_eq _ _ (by rw [h.len]; omega), drop_set_ge _ _ (by omega), hd2, Nat.mod_eq_of_lt hq]
  refine small_ring h.eq ?_
  rw [Nat.mul_comm (_ / n) n]
  exact (Nat.div_add_mod _ n).symm
theorem Small.digit {us qs : List Nat} {n k r u : Nat} (h : Small us n k qs r) (hu : u < 4294967296) : (r * 4294967296 + u) / n < 4294967296 ∧ r * 4294967296 + u < n * 4294967296 := by
  have hr := h.lt
  have : (r + 1) * 4294967296 ≤ n * 4294967296 := Nat.mul_le_mul_right _ hr
  refine ⟨?_, by omega⟩
  rw [Nat.div_lt_iff_lt_mul (by omega)]
  rw [Nat.mul_comm 4294967296 n]
  omega
/-- a binary search for t / v -/
structure Half (t v lo hi : Nat) : Prop where
  low : v * lo ≤ t
  high : t < v * hi
theorem Half.le {t v lo hi : Nat} (h : Half t v lo hi) : lo < hi := by
  rcases Nat.lt_or_ge lo hi with h1 | h1
  · exact h1
  · have := Nat.mul_le_mul_left v h1
    have := h.low
    have := h.high
    omega
theorem Half.final {t v lo hi : Nat} (h : Half t v lo hi) (h1 : hi - lo ≤ 1) : lo = t / v := by
  have h2 := h.le
  have h3 : hi = lo + 1 := by omega
  subst h3
  have h4 := h.low
  have h5 := h.high
  have hv : 0 < v := by rcases Nat.eq_zero_or_pos v with rfl | hv; · simp at h5
                        · exact hv
  refine Nat.le_antisymm ?_ ?_
  · rw [Nat.le_div_iff_mul_le hv, Nat.mul_comm]; exact h4
  · have : t / v < lo + 1 := by rw [Nat.div_lt_iff_lt_mul hv, Nat.mul_comm]; exact h5
    omega
theorem Small.final {us qs : List Nat} {n r : Nat} (h : Small us n us.length qs r) : val us = val qs * n + r := by
  have := h.eq
  rwa [Nat.sub_self, List.drop_zero, List.drop_zero] at this
theorem Small.quot {us qs : List Nat} {n r : Nat} (h : Small us n us.length qs r) : val qs = val us / n := by
  rw [h.final, Nat.mul_comm, Nat.mul_add_div (by have := h.lt; omega), Nat.div_eq_of_lt h.lt, Nat.add_zero]
theorem Small.rem {us qs : List Nat} {n r : Nat} (h : Small us n us.length qs r) : r = val us % n := by
  rw [h.final, Nat.mul_comm, Nat.mul_add_mod, Nat.mod_eq_of_lt h.lt]
end Go.Proofs.Ytnmmgegnioihmaa
