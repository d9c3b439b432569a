/- Plain numbers: the product of two magnitudes, row by row. No program in sight. -/
import Derived.Test.YtnmmgegnioihmaaDigits
set_option linter.unusedVariables false
set_option linter.unusedSimpArgs false
namespace Go.Proofs.Ytnmmgegnioihmaa

theorem val_set (os : List Nat) (j v : Nat) (h : j < os.length) : val (os.set j v) + 4294967296 ^ j * os.getD j 0 = val os + 4294967296 ^ j * v := by
  induction os generalizing j with
  | nil => simp at h
  | cons o os ih =>
    cases j with
    | zero => simp [val]; omega
    | succ j =>
      have := ih j (by simpa using h)
      rw [List.set_cons_succ, val_cons, val_cons, List.getD_cons_succ, Nat.pow_succ]
      generalize 4294967296 ^ j = p at *
      have e1 := mul_swap 4294967296 p (os.getD j 0)
      have e2 := mul_swap 4294967296 p v
      generalize p * os.getD j 0 = a at *
      generalize p * v = b at *
      generalize p * 4294967296 * os.getD j 0 = c at *
      generalize p * 4294967296 * v = d at *
      omega
theorem getD_set_ne (os : List Nat) {j k : Nat} (v : Nat) (h : j ≠ k) : (os.set j v).getD k 0 = os.getD k 0 := by
  rw [List.getD_eq_getElem?_getD, List.getD_eq_getElem?_getD, List.getElem?_set_ne h]
theorem getD_set_eq (os : List Nat) {j : Nat} (v : Nat) (h : j < os.length) : (os.set j v).getD j 0 = v := by
  rw [List.getD_eq_getElem?_getD, List.getElem?_set_self h]; rfl
/-- the state of a row: k digits of vs times x have been added at i -/
structure MulIn (O : List Nat) (i x : Nat) (vs : List Nat) (k : Nat) (os : List Nat) (c : Nat) : Prop where
  len : os.length = O.length
  rng : Rng os
  lt : c < 4294967296
  eq : val os + 4294967296 ^ (i + k) * c = val O + 4294967296 ^ i * (x * val (vs.take k))
  rest : ∀ j, i + k ≤ j → os.getD j 0 = O.getD j 0
theorem MulIn.start {O : List Nat} (h : Rng O) (i x : Nat) (vs : List Nat) : MulIn O i x vs 0 O 0 := ⟨rfl, h, by omega, by simp [val], fun _ _ => rfl⟩
theorem mul_digit_lt {c x y o : Nat} (hc : c < 4294967296) (hx : x < 4294967296) (hy : y < 4294967296) (ho : o < 4294967296) : c + (x * y + o) < 18446744073709551616 := by
  have : x * y ≤ 4294967295 * 4294967295 := Nat.mul_le_mul (by omega) (by omega)
  omega
theorem mul_ring {p q B s so c v vO x vk y : Nat} (h1 : v + q * c = vO + p * (x * vk)) (hs : s = c + (x * y + so)) (w : Nat) (hw : w + q * so = v + q * (s % B)) (hB : 0 < B) (B2 : Nat) (hq : ∃ r, q = p * r ∧ B2 = r) : w + q * B * (s / B) = vO + p * (x * (vk + B2 * y)) := by
  obtain ⟨r, rfl, rfl⟩ := hq
  have e1 : p * B2 * B * (s / B) + p * B2 * (s % B) = p * B2 * s := by
    rw [Nat.mul_assoc (p * B2), ← Nat.mul_add]; congr 1; exact Nat.div_add_mod s B
  have e2 : p * B2 * s = p * B2 * c + p * B2 * (x * y) + p * B2 * so := by rw [hs, Nat.mul_add, Nat.mul_add, Nat.add_assoc]
  have e3 : p * (x * (vk + B2 * y)) = p * (x * vk) + p * B2 * (x * y) := by
    rw [Nat.mul_add, Nat.mul_add, Nat.mul_assoc p B2, Nat.mul_left_comm x B2 y]
  rw [e3]
  generalize p * B2 * so = a1 at *
  generalize p * B2 * (x * y) = a2 at *
  generalize p * (x * vk) = a3 at *
  generalize p * B2 * c = a4 at *
  generalize p * B2 * s = a5 at *
  generalize p * B2 * (s % B) = a6 at *
  generalize p * B2 * B * (s / B) = a7 at *
  omega
theorem MulIn.step {O vs os : List Nat} {i x k c : Nat} (h : MulIn O i x vs k os c) (hx : x < 4294967296) (hv : Rng vs) (hk : k < vs.length) (hl : i + k < O.length) :
    MulIn O i x vs (k + 1) (os.set (i + k) ((c + (x * vs.getD k 0 + os.getD (i + k) 0)) % 4294967296)) ((c + (x * vs.getD k 0 + os.getD (i + k) 0)) / 4294967296) := by
  have hlt := mul_digit_lt h.lt hx (hv.getD k) (h.rng.getD (i + k))
  have hl2 : i + k < os.length := by rw [h.len]; exact hl
  refine ⟨by simp [h.len], h.rng.set _ (Nat.mod_lt _ (by omega)), ?_, ?_, fun j hj => ?_⟩
  · generalize c + (x * vs.getD k 0 + os.getD (i + k) 0) = s at *
    omega
  · rw [val_take_succ, show i + (k + 1) = (i + k) + 1 from rfl, Nat.pow_succ 4294967296 (i + k)]
    exact mul_ring h.eq rfl _ (val_set os (i + k) _ hl2) (by omega) _ ⟨4294967296 ^ k, Nat.pow_add .., rfl⟩
  · rw [getD_set_ne _ _ (by omega)]; exact h.rest j (by omega)
/-- the state of the product: i digits of us are done -/
structure MulOut (us vs : List Nat) (i : Nat) (os : List Nat) : Prop where
  len : os.length = us.length + vs.length
  rng : Rng os
  eq : val os = val (us.take i) * val vs
  rest : ∀ j, i + vs.length ≤ j → os.getD j 0 = 0
theorem MulOut.start (us vs : List Nat) : MulOut us vs 0 (List.replicate (us.length + vs.length) 0) := by
  refine ⟨by simp, Rng.replicate _, by simp [val, val_replicate], fun j _ => ?_⟩
  rw [List.getD_eq_getElem?_getD, List.getElem?_replicate]
  split <;> rfl
theorem MulOut.step {us vs O os : List Nat} {i c : Nat} (h : MulOut us vs i O) (hi : i < us.length) (hin : MulIn O i (us.getD i 0) vs vs.length os c) : MulOut us vs (i + 1) (os.set (i + vs.length) c) := by
  have hl : i + vs.length < os.length := by rw [hin.len, h.len]; omega
  refine ⟨by rw [List.length_set, hin.len, h.len], hin.rng.set _ hin.lt, ?_, fun j hj => ?_⟩
  · have h1 := hin.eq
    have h2 := val_set os (i + vs.length) c hl
    rw [hin.rest _ (Nat.le_refl _), h.rest _ (Nat.le_refl _), Nat.mul_zero, Nat.add_zero] at h2
    rw [h2, h1, h.eq, List.take_length, val_take_succ, Nat.add_mul]
    congr 1
    rw [Nat.mul_assoc]
  · rw [getD_set_ne _ _ (by omega), hin.rest j (by omega)]; exact h.rest j (by omega)
theorem MulOut.final {us vs os : List Nat} (h : MulOut us vs us.length os) : val os = val us * val vs := by rw [h.eq, List.take_length]
end Go.Proofs.Ytnmmgegnioihmaa
