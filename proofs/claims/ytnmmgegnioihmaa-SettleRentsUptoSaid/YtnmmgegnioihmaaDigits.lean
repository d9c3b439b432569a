/- Plain numbers: sums and differences word by word, with a carry. No program in sight. -/
import Derived.Test.YtnmmgegnioihmaaNum
set_option linter.unusedVariables false
set_option linter.unusedSimpArgs false
namespace Go.Proofs.Ytnmmgegnioihmaa

/-- the words and the carry behind the digits vs, each less than 2^33 or so -/
def crun (vs : List Nat) : List Nat × Nat := vs.foldl (fun p v => (p.1 ++ [(v + p.2) % 4294967296], (v + p.2) / 4294967296)) ([], 0)
theorem crun_nil : crun [] = ([], 0) := rfl
theorem crun_snoc (vs : List Nat) (v : Nat) : crun (vs ++ [v]) = ((crun vs).1 ++ [(v + (crun vs).2) % 4294967296], (v + (crun vs).2) / 4294967296) := by simp [crun]
theorem crun_len (vs : List Nat) : (crun vs).1.length = vs.length := by
  induction vs using snoc_ind with
  | h0 => rfl
  | h1 vs v ih => rw [crun_snoc]; simp [ih]
theorem crun_rng (vs : List Nat) : Rng (crun vs).1 := by
  induction vs using snoc_ind with
  | h0 => exact Rng.nil
  | h1 vs v ih => rw [crun_snoc]; exact Rng.append ih (Rng.cons (by omega) Rng.nil)
theorem crun_val (vs : List Nat) : val (crun vs).1 + 4294967296 ^ vs.length * (crun vs).2 = val vs := by
  induction vs using snoc_ind with
  | h0 => rfl
  | h1 vs v ih =>
    rw [crun_snoc]
    dsimp only
    rw [val_snoc, val_snoc, crun_len, List.length_append, List.length_singleton, Nat.pow_succ]
    generalize 4294967296 ^ vs.length = p at *
    have h1 := Nat.div_add_mod (v + (crun vs).2) 4294967296
    have h2 : p * ((v + (crun vs).2) % 4294967296) + p * 4294967296 * ((v + (crun vs).2) / 4294967296) = p * (v + (crun vs).2) := by
      rw [Nat.mul_assoc, ← Nat.mul_add]; congr 1; omega
    rw [Nat.mul_add] at h2
    omega
theorem crun_carry {vs : List Nat} (h : ∀ v ∈ vs, v < 8589934592) : (crun vs).2 ≤ 2 := by
  induction vs using snoc_ind with
  | h0 => simp [crun_nil]
  | h1 vs v ih =>
    rw [crun_snoc]
    have := ih fun u hu => h u (List.mem_append_left _ hu)
    have := h v (by simp)
    dsimp only
    omega
/-- all the words: the carry behind the others -/
def cout (vs : List Nat) : List Nat := (crun vs).1 ++ [(crun vs).2 % 4294967296]
theorem cout_rng (vs : List Nat) : Rng (cout vs) := Rng.append (crun_rng vs) (Rng.cons (by omega) Rng.nil)
theorem cout_len (vs : List Nat) : (cout vs).length = vs.length + 1 := by simp [cout, crun_len]
theorem cout_val {vs : List Nat} (h : ∀ v ∈ vs, v < 8589934592) : val (cout vs) = val vs := by
  have h1 := crun_val vs
  have h2 := crun_carry h
  unfold cout
  rw [val_snoc, crun_len, Nat.mod_eq_of_lt (by omega)]
  exact h1

/-! ### the digits of a sum and of a difference -/
def digs (us vs : List Nat) (f : Nat → Nat → Nat) (k : Nat) : List Nat := (List.range k).map fun j => f (us.getD j 0) (vs.getD j 0)
theorem digs_zero (us vs : List Nat) (f : Nat → Nat → Nat) : digs us vs f 0 = [] := rfl
theorem digs_succ (us vs : List Nat) (f : Nat → Nat → Nat) (k : Nat) : digs us vs f (k + 1) = digs us vs f k ++ [f (us.getD k 0) (vs.getD k 0)] := by simp [digs, List.range_succ]
theorem digs_len (us vs : List Nat) (f : Nat → Nat → Nat) (k : Nat) : (digs us vs f k).length = k := by simp [digs]
theorem val_take_succ (us : List Nat) (k : Nat) : val (us.take (k + 1)) = val (us.take k) + 4294967296 ^ k * us.getD k 0 := by
  rw [List.getD_eq_getElem?_getD]
  rcases Nat.lt_or_ge k us.length with h | h
  · rw [List.take_succ_eq_append_getElem h, val_snoc, List.getElem?_eq_getElem h, List.length_take, Nat.min_eq_left (Nat.le_of_lt h)]; rfl
  · rw [List.take_of_length_le (by omega), List.take_of_length_le h, List.getElem?_eq_none h]; simp
theorem val_digs_add (us vs : List Nat) (k : Nat) : val (digs us vs (fun x y => x + y) k) = val (us.take k) + val (vs.take k) := by
  induction k with
  | zero => simp [digs, val]
  | succ k ih => rw [digs_succ, val_snoc, ih, digs_len, val_take_succ, val_take_succ, Nat.mul_add]; omega
theorem sub_step (B p x y : Nat) (h : y < B) : p * (x + B - 1 - y) + p * y + p = p * x + p * B := by
  have h1 : x + B = (x + B - 1 - y) + y + 1 := by omega
  rw [← Nat.mul_add p x B]
  generalize x + B - 1 - y = a at *
  rw [h1, Nat.mul_add, Nat.mul_add, Nat.mul_one]
/-- the digit of a difference -/
def subD (x y : Nat) : Nat := x + 4294967296 - 1 - y
theorem subD_step (p x y : Nat) (h : y < 4294967296) : p * subD x y + p * y + p = p * x + p * 4294967296 := sub_step 4294967296 p x y h
theorem subD_lt {x y : Nat} (h : x < 4294967296) : subD x y < 8589934592 := by unfold subD; omega
theorem sub_sum {S V U p a b c d : Nat} (ih : S + V + 1 = U + p) (h : a + b + p = c + d) : S + a + (V + b) + 1 = U + c + d := by omega
theorem val_digs_sub (us : List Nat) {vs : List Nat} (hv : Rng vs) (k : Nat) : val (digs us vs subD k) + val (vs.take k) + 1 = val (us.take k) + 4294967296 ^ k := by
  induction k with
  | zero => simp [digs, val]
  | succ k ih =>
    rw [digs_succ, val_snoc, digs_len, val_take_succ, val_take_succ, Nat.pow_succ]
    exact sub_sum ih (subD_step (4294967296 ^ k) _ _ (hv.getD k))
theorem digs_add_lt {us vs : List Nat} (hu : Rng us) (hv : Rng vs) (k : Nat) : ∀ v ∈ digs us vs (fun x y => x + y) k, v < 8589934592 := fun v h => by
  obtain ⟨j, _, rfl⟩ := List.mem_map.1 h
  have := hu.getD j
  have := hv.getD j
  dsimp only
  omega
theorem digs_sub_lt {us vs : List Nat} (hu : Rng us) (hv : Rng vs) (k : Nat) : ∀ v ∈ digs us vs subD k, v < 8589934592 := fun v h => by
  obtain ⟨j, _, rfl⟩ := List.mem_map.1 h
  exact subD_lt (hu.getD j)
/-- what whole.add returns -/
def addW (us vs : List Nat) : List Nat := cout (digs us vs (fun x y => x + y) (max us.length vs.length))
theorem addW_val {us vs : List Nat} (hu : Rng us) (hv : Rng vs) : val (addW us vs) = val us + val vs := by
  unfold addW
  rw [cout_val (digs_add_lt hu hv _), val_digs_add, List.take_of_length_le (by omega), List.take_of_length_le (by omega)]
theorem addW_rng (us vs : List Nat) : Rng (addW us vs) := cout_rng _
theorem addW_len (us vs : List Nat) : (addW us vs).length = max us.length vs.length + 1 := by unfold addW; rw [cout_len, digs_len]
/-- what whole.sub returns -/
def subAll (us vs : List Nat) : List Nat := cout (4294967296 :: digs us vs subD (max us.length vs.length))
def subW (us vs : List Nat) : List Nat := ((subAll us vs).take ((subAll us vs).length - 1)).drop 1
theorem subAll_len (us vs : List Nat) : (subAll us vs).length = max us.length vs.length + 2 := by unfold subAll; rw [cout_len]; simp [digs_len]
theorem subAll_rng (us vs : List Nat) : Rng (subAll us vs) := cout_rng _
theorem subW_rng (us vs : List Nat) : Rng (subW us vs) := ((subAll_rng us vs).take _).drop _
theorem subW_len (us vs : List Nat) : (subW us vs).length = max us.length vs.length := by unfold subW; rw [List.length_drop, List.length_take, subAll_len]; omega
theorem val_cons (x : Nat) (xs : List Nat) : val (x :: xs) = x + 4294967296 * val xs := rfl
theorem mul_swap (B p y : Nat) : p * B * y = B * (p * y) := by rw [Nat.mul_comm p, Nat.mul_assoc]
theorem subW_val {us vs : List Nat} (hu : Rng us) (hv : Rng vs) (h : val vs ≤ val us) : val (subW us vs) = val us - val vs := by
  have hall : val (subAll us vs) = 4294967296 + 4294967296 * val (digs us vs subD (max us.length vs.length)) := by
    unfold subAll
    rw [cout_val, val_cons]
    intro v hv2
    rcases List.mem_cons.1 hv2 with rfl | hv2
    · omega
    · exact digs_sub_lt hu hv _ v hv2
  have hd := val_digs_sub us hv (max us.length vs.length)
  rw [List.take_of_length_le (by omega), List.take_of_length_le (by omega)] at hd
  have hlen := subAll_len us vs
  have hr := subAll_rng us vs
  have hwl := subW_len us vs
  have hwr := subW_rng us vs
  have hlt := val_lt hwr
  rw [hwl] at hlt
  unfold subW at hlt ⊢
  clear hwl hwr
  generalize subAll us vs = ws at *
  generalize hD : val (digs us vs subD (max us.length vs.length)) = D at *
  rcases list_snoc ws with rfl | ⟨ys, y, rfl⟩
  · simp at hlen
  · have e1 : (ys ++ [y]).take ((ys ++ [y]).length - 1) = ys := by simp
    rw [e1] at hlt ⊢
    rw [val_snoc] at hall
    have hy := hr y (by simp)
    cases ys with
    | nil => simp at hlen
    | cons x zs =>
      have hx := hr x (by simp)
      rw [List.drop_succ_cons, List.drop_zero] at hlt ⊢
      have hz : zs.length = max us.length vs.length := by simpa using hlen
      rw [val_cons, List.length_cons, Nat.pow_succ, hz] at hall
      have hul : val us < 4294967296 ^ max us.length vs.length := Nat.lt_of_lt_of_le (val_lt hu) (Nat.pow_le_pow_right (by omega) (by omega))
      generalize 4294967296 ^ max us.length vs.length = p at *
      have h0 : x = 0 := by
        have h2 := mul_swap 4294967296 p y
        omega
      subst h0
      have h3 : val zs + p * y = 1 + D := by
        have h2 := mul_swap 4294967296 p y
        omega
      have h4 : y = 1 := by
        rcases Nat.lt_or_ge y 1 with h | h
        · have : y = 0 := by omega
          subst this; omega
        · rcases Nat.lt_or_ge y 2 with h5 | h5
          · omega
          · have : p * 2 ≤ p * y := Nat.mul_le_mul_left _ h5
            omega
      subst h4
      omega

/-! ### comparison -/
def cmpD (c : Int) (x y : Nat) : Int := if x < y then -1 else if y < x then 1 else c
def cmpRun (us vs : List Nat) (k : Nat) : Int := (List.range k).foldl (fun c j => cmpD c (us.getD j 0) (vs.getD j 0)) 0
theorem cmpRun_succ (us vs : List Nat) (k : Nat) : cmpRun us vs (k + 1) = cmpD (cmpRun us vs k) (us.getD k 0) (vs.getD k 0) := by simp [cmpRun, List.range_succ]
theorem cmpRun_spec {us vs : List Nat} (hu : Rng us) (hv : Rng vs) (k : Nat) : (cmpRun us vs k = -1 ∧ val (us.take k) < val (vs.take k)) ∨ (cmpRun us vs k = 0 ∧ val (us.take k) = val (vs.take k)) ∨ (cmpRun us vs k = 1 ∧ val (vs.take k) < val (us.take k)) := by
  induction k with
  | zero => right; left; simp [cmpRun]
  | succ k ih =>
    have h1 : val (us.take k) < 4294967296 ^ k := Nat.lt_of_lt_of_le (val_lt (hu.take k)) (Nat.pow_le_pow_right (by omega) (by simp; omega))
    have h2 : val (vs.take k) < 4294967296 ^ k := Nat.lt_of_lt_of_le (val_lt (hv.take k)) (Nat.pow_le_pow_right (by omega) (by simp; omega))
    rw [cmpRun_succ, val_take_succ, val_take_succ]
    generalize 4294967296 ^ k = p at *
    generalize us.getD k 0 = x at *
    generalize vs.getD k 0 = y at *
    unfold cmpD
    rcases Nat.lt_trichotomy x y with h | h | h
    · rw [if_pos h]
      left
      have : p * (x + 1) ≤ p * y := Nat.mul_le_mul_left _ h
      rw [Nat.mul_add, Nat.mul_one] at this
      exact ⟨rfl, by omega⟩
    · subst h
      rw [if_neg (by omega), if_neg (by omega)]
      rcases ih with ⟨e, h⟩ | ⟨e, h⟩ | ⟨e, h⟩
      · left; exact ⟨e, by omega⟩
      · right; left; exact ⟨e, by omega⟩
      · right; right; exact ⟨e, by omega⟩
    · rw [if_neg (by omega), if_pos h]
      right; right
      have : p * (y + 1) ≤ p * x := Nat.mul_le_mul_left _ h
      rw [Nat.mul_add, Nat.mul_one] at this
      exact ⟨rfl, by omega⟩
/-- what whole.cmp returns -/
def cmpW (us vs : List Nat) : Int := if us.length = vs.length then cmpRun us vs us.length else (us.length : Int) - (vs.length : Int)
theorem trim_low {us : List Nat} (h : trim us = us) {n : Nat} (hn : us.length = n + 1) : 4294967296 ^ n ≤ val us := by
  rcases list_snoc us with rfl | ⟨ys, y, rfl⟩
  · simp at hn
  · have hy : y ≠ 0 := by
      rintro rfl
      rw [trim_zero] at h
      have := congrArg List.length h
      have := trim_len ys
      simp at *
      omega
    have hl : ys.length = n := by simpa using hn
    rw [val_snoc, hl]
    have : 4294967296 ^ n * 1 ≤ 4294967296 ^ n * y := Nat.mul_le_mul_left _ (by omega)
    omega
theorem len_lt_val {us vs : List Nat} (hu : Rng us) (tv : trim vs = vs) (h : us.length < vs.length) : val us < val vs := by
  obtain ⟨n, hn⟩ : ∃ n, vs.length = n + 1 := ⟨vs.length - 1, by omega⟩
  exact Nat.lt_of_lt_of_le (val_lt hu) (Nat.le_trans (Nat.pow_le_pow_right (by omega) (by omega)) (trim_low tv hn))
theorem cmpW_spec {us vs : List Nat} (hu : Rng us) (hv : Rng vs) (tu : trim us = us) (tv : trim vs = vs) : (cmpW us vs < 0 ∧ val us < val vs) ∨ (cmpW us vs = 0 ∧ val us = val vs) ∨ (0 < cmpW us vs ∧ val vs < val us) := by
  unfold cmpW
  split
  · rename_i h
    have := cmpRun_spec hu hv us.length
    rw [List.take_length, h, List.take_length] at this
    rw [h]
    rcases this with ⟨e, h⟩ | ⟨e, h⟩ | ⟨e, h⟩
    · left; exact ⟨by omega, h⟩
    · right; left; exact ⟨e, h⟩
    · right; right; exact ⟨by omega, h⟩
  · rename_i h
    rcases Nat.lt_or_ge us.length vs.length with h1 | h1
    · left; exact ⟨by omega, len_lt_val hu tv h1⟩
    · right; right; exact ⟨by omega, len_lt_val hv tu (by omega)⟩
theorem cmpW_nonneg {us vs : List Nat} (hu : Rng us) (hv : Rng vs) (tu : trim us = us) (tv : trim vs = vs) : 0 ≤ cmpW us vs ↔ val vs ≤ val us := by
  rcases cmpW_spec hu hv tu tv with ⟨h, k⟩ | ⟨h, k⟩ | ⟨h, k⟩ <;> omega
theorem cmpW_nonpos {us vs : List Nat} (hu : Rng us) (hv : Rng vs) (tu : trim us = us) (tv : trim vs = vs) : cmpW us vs ≤ 0 ↔ val us ≤ val vs := by
  rcases cmpW_spec hu hv tu tv with ⟨h, k⟩ | ⟨h, k⟩ | ⟨h, k⟩ <;> omega
theorem cmpW_bound (us vs : List Nat) : cmpW us vs = -1 ∨ cmpW us vs = 0 ∨ cmpW us vs = 1 ∨ cmpW us vs = (us.length : Int) - (vs.length : Int) := by
  unfold cmpW
  split
  · have h : ∀ k, cmpRun us vs k = -1 ∨ cmpRun us vs k = 0 ∨ cmpRun us vs k = 1 := by
      intro k
      induction k with
      | zero => simp [cmpRun]
      | succ k ih => rw [cmpRun_succ]; unfold cmpD; split; · simp
                     split; · simp
                     exact ih
    rcases h us.length with h | h | h <;> simp [h]
  · simp
end Go.Proofs.Ytnmmgegnioihmaa
