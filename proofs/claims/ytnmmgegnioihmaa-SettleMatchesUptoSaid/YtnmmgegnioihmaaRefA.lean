/- Plain numbers: digits of 16 bits, as the reference keeps them. No program in sight. -/
import Derived.Test.YtnmmgegnioihmaaPlainA
import Derived.Test.YtnmmgegnioihmaaWholeB
import Derived.Deep.AppendLies
import Derived.Deep.RegionHeldLaw
import Derived.RegionTactic
import Derived.ChangeAlike
set_option linter.unusedVariables false
set_option linter.unusedSimpArgs false
namespace Go.Proofs.Ytnmmgegnioihmaa

/-- the number that words tell, the least word first -/
def hval : List Nat → Nat
  | [] => 0
  | x :: xs => x + 65536 * hval xs
def Rgh (xs : List Nat) : Prop := ∀ x ∈ xs, x < 65536
theorem Rgh.nil : Rgh [] := fun _ h => by cases h
theorem Rgh.cons {x xs} (hx : x < 65536) (h : Rgh xs) : Rgh (x :: xs) := fun y hy => by
  rcases List.mem_cons.1 hy with rfl | hy
  · exact hx
  · exact h y hy
theorem Rgh.head {x xs} (h : Rgh (x :: xs)) : x < 65536 := h x List.mem_cons_self
theorem Rgh.tail {x xs} (h : Rgh (x :: xs)) : Rgh xs := fun y hy => h y (List.mem_cons_of_mem _ hy)
theorem Rgh.append {xs ys} (h : Rgh xs) (k : Rgh ys) : Rgh (xs ++ ys) := fun y hy => by
  rcases List.mem_append.1 hy with hy | hy
  · exact h y hy
  · exact k y hy
theorem Rgh.take {xs} (h : Rgh xs) (n : Nat) : Rgh (xs.take n) := fun y hy => h y (List.mem_of_mem_take hy)
theorem Rgh.drop {xs} (h : Rgh xs) (n : Nat) : Rgh (xs.drop n) := fun y hy => h y (List.mem_of_mem_drop hy)
theorem Rgh.getD {xs} (h : Rgh xs) (j : Nat) : xs.getD j 0 < 65536 := by
  rw [List.getD_eq_getElem?_getD]
  cases e : xs[j]? with
  | none => simp
  | some v => exact h v (List.mem_of_getElem? e)
theorem Rgh.set {xs} (h : Rgh xs) (j : Nat) {v} (hv : v < 65536) : Rgh (xs.set j v) := fun y hy => by
  rcases List.mem_or_eq_of_mem_set hy with hy | rfl
  · exact h y hy
  · exact hv
theorem Rgh.replicate (n : Nat) : Rgh (List.replicate n 0) := fun y hy => by
  rw [(List.mem_replicate.1 hy).2]; omega
theorem hval_append (xs ys : List Nat) : hval (xs ++ ys) = hval xs + 65536 ^ xs.length * hval ys := by
  induction xs with
  | nil => simp [hval]
  | cons x xs ih =>
    simp only [List.cons_append, hval, ih, List.length_cons, Nat.pow_succ]
    rw [Nat.mul_add, Nat.add_assoc, ← Nat.mul_assoc, Nat.mul_comm (65536 ^ xs.length)]
theorem hval_lt {xs : List Nat} (h : Rgh xs) : hval xs < 65536 ^ xs.length := by
  induction xs with
  | nil => simp [hval]
  | cons x xs ih =>
    have h1 := ih h.tail
    have h2 := h.head
    simp only [hval, List.length_cons, Nat.pow_succ]
    generalize 65536 ^ xs.length = p at *
    omega
theorem hval_replicate (n : Nat) : hval (List.replicate n 0) = 0 := by
  induction n with
  | zero => rfl
  | succ n ih => simp [List.replicate_succ, hval, ih]
theorem hval_snoc (xs : List Nat) (x : Nat) : hval (xs ++ [x]) = hval xs + 65536 ^ xs.length * x := by
  rw [hval_append]; simp [hval]
/-- the words of a number: none of them a zero at the end -/
def dig (n : Nat) : List Nat := if h : n = 0 then [] else n % 65536 :: dig (n / 65536)
termination_by n
decreasing_by omega
theorem dig_zero : dig 0 = [] := by rw [dig]; simp
theorem dig_pos {n : Nat} (h : n ≠ 0) : dig n = n % 65536 :: dig (n / 65536) := by rw [dig]; simp [h]
theorem hval_dig (n : Nat) : hval (dig n) = n := by
  induction n using Nat.strongRecOn with
  | _ n ih =>
    by_cases h : n = 0
    · subst h; simp [dig_zero, hval]
    · rw [dig_pos h, hval, ih _ (by omega)]; omega
theorem rgh_dig (n : Nat) : Rgh (dig n) := by
  induction n using Nat.strongRecOn with
  | _ n ih =>
    by_cases h : n = 0
    · subst h; rw [dig_zero]; exact Rgh.nil
    · rw [dig_pos h]; exact Rgh.cons (by omega) (ih _ (by omega))
theorem dig_eq_nil {n : Nat} : dig n = [] ↔ n = 0 := by
  constructor
  · intro h; rw [← hval_dig n, h]; rfl
  · rintro rfl; exact dig_zero
theorem dig_len {n k : Nat} (h : n < 65536 ^ k) : (dig n).length ≤ k := by
  induction k generalizing n with
  | zero => have : n = 0 := by simpa using h
            subst this; simp [dig_zero]
  | succ k ih =>
    by_cases h0 : n = 0
    · subst h0; simp [dig_zero]
    · rw [dig_pos h0, List.length_cons]
      have := ih (n := n / 65536) (by rw [Nat.pow_succ] at h; exact Nat.div_lt_of_lt_mul (by rw [Nat.mul_comm]; exact h))
      omega
theorem dig_len_mono {m n : Nat} (h : m ≤ n) : (dig m).length ≤ (dig n).length := by
  refine dig_len (Nat.lt_of_le_of_lt h ?_)
  have := hval_lt (rgh_dig n)
  rwa [hval_dig] at this
theorem lt_dig_len (n : Nat) : n < 65536 ^ (dig n).length := by
  have := hval_lt (rgh_dig n)
  rwa [hval_dig] at this
theorem trimh_eq {xs : List Nat} (h : Rgh xs) : trim xs = dig (hval xs) := by
  have key : ∀ xs : List Nat, Rgh xs → (∀ ys y, xs = ys ++ [y] → y ≠ 0) → dig (hval xs) = xs := by
    intro xs
    induction xs with
    | nil => intro _ _; simp [hval, dig_zero]
    | cons x xs ih =>
      intro hr hl
      have hx := hr.head
      have h1 : x + 65536 * hval xs ≠ 0 := by
        rcases list_snoc xs with rfl | ⟨ys, y, rfl⟩
        · have := hl [] x rfl; simp [hval]; exact this
        · have := hl (x :: ys) y rfl
          rw [hval_snoc]
          have h2 : 0 < 65536 ^ ys.length * y := Nat.mul_pos (Nat.pow_pos (by omega)) (by omega)
          omega
      rw [hval, dig_pos h1]
      rw [show (x + 65536 * hval xs) % 65536 = x from by omega, show (x + 65536 * hval xs) / 65536 = hval xs from by omega]
      rw [ih hr.tail (fun ys y e => hl (x :: ys) y (by rw [e]; rfl))]
  induction xs using snoc_ind with
  | h0 => simp [trim_nil, hval, dig_zero]
  | h1 xs x ih =>
    by_cases hx : x = 0
    · subst hx
      rw [trim_zero, ih (fun y hy => h y (List.mem_append_left _ hy)), hval_snoc]; simp
    · rw [trim_snoc _ hx]
      refine (key _ h ?_).symm
      intro ys y e
      have := congrArg List.getLast? e
      simp at this
      omega
theorem hval_trim {xs : List Nat} (h : Rgh xs) : hval (trim xs) = hval xs := by rw [trimh_eq h, hval_dig]
theorem trim_dig (n : Nat) : trim (dig n) = dig n := by rw [trimh_eq (rgh_dig n), hval_dig]
/-- the words and the carry behind the digits vs, each less than 2^33 or so -/
def hrun (vs : List Nat) : List Nat × Nat := vs.foldl (fun p v => (p.1 ++ [(v + p.2) % 65536], (v + p.2) / 65536)) ([], 0)
theorem hrun_nil : hrun [] = ([], 0) := rfl
theorem hrun_snoc (vs : List Nat) (v : Nat) : hrun (vs ++ [v]) = ((hrun vs).1 ++ [(v + (hrun vs).2) % 65536], (v + (hrun vs).2) / 65536) := by simp [hrun]
theorem hrun_len (vs : List Nat) : (hrun vs).1.length = vs.length := by
  induction vs using snoc_ind with
  | h0 => rfl
  | h1 vs v ih => rw [hrun_snoc]; simp [ih]
theorem hrun_rgh (vs : List Nat) : Rgh (hrun vs).1 := by
  induction vs using snoc_ind with
  | h0 => exact Rgh.nil
  | h1 vs v ih => rw [hrun_snoc]; exact Rgh.append ih (Rgh.cons (by omega) Rgh.nil)
theorem hrun_hval (vs : List Nat) : hval (hrun vs).1 + 65536 ^ vs.length * (hrun vs).2 = hval vs := by
  induction vs using snoc_ind with
  | h0 => rfl
  | h1 vs v ih =>
    rw [hrun_snoc]
    dsimp only
    rw [hval_snoc, hval_snoc, hrun_len, List.length_append, List.length_singleton, Nat.pow_succ]
    generalize 65536 ^ vs.length = p at *
    have h1 := Nat.div_add_mod (v + (hrun vs).2) 65536
    have h2 : p * ((v + (hrun vs).2) % 65536) + p * 65536 * ((v + (hrun vs).2) / 65536) = p * (v + (hrun vs).2) := by
      rw [Nat.mul_assoc, ← Nat.mul_add]; congr 1; omega
    rw [Nat.mul_add] at h2
    omega
theorem hval_take_succ (us : List Nat) (k : Nat) : hval (us.take (k + 1)) = hval (us.take k) + 65536 ^ k * us.getD k 0 := by
  rw [List.getD_eq_getElem?_getD]
  rcases Nat.lt_or_ge k us.length with h | h
  · rw [List.take_succ_eq_append_getElem h, hval_snoc, List.getElem?_eq_getElem h, List.length_take, Nat.min_eq_left (Nat.le_of_lt h)]; rfl
  · rw [List.take_of_length_le (by omega), List.take_of_length_le h, List.getElem?_eq_none h]; simp
theorem hval_digs_add (us vs : List Nat) (k : Nat) : hval (digs us vs (fun x y => x + y) k) = hval (us.take k) + hval (vs.take k) := by
  induction k with
  | zero => simp [digs, hval]
  | succ k ih => rw [digs_succ, hval_snoc, ih, digs_len, hval_take_succ, hval_take_succ, Nat.mul_add]; omega
theorem trimh_low {us : List Nat} (h : trim us = us) {n : Nat} (hn : us.length = n + 1) : 65536 ^ n ≤ hval us := by
  rcases list_snoc us with rfl | ⟨ys, y, rfl⟩
  · simp at hn
  · have hy : y ≠ 0 := by
      rintro rfl
      rw [trim_zero] at h
      have := congrArg List.length h
      have := trim_len ys
      simp at *
      omega
    have hl : ys.length = n := by simpa using hn
    rw [hval_snoc, hl]
    have : 65536 ^ n * 1 ≤ 65536 ^ n * y := Nat.mul_le_mul_left _ (by omega)
    omega
theorem len_lt_hval {us vs : List Nat} (hu : Rgh us) (tv : trim vs = vs) (h : us.length < vs.length) : hval us < hval vs := by
  obtain ⟨n, hn⟩ : ∃ n, vs.length = n + 1 := ⟨vs.length - 1, by omega⟩
  exact Nat.lt_of_lt_of_le (hval_lt hu) (Nat.le_trans (Nat.pow_le_pow_right (by omega) (by omega)) (trimh_low tv hn))
end Go.Proofs.Ytnmmgegnioihmaa
namespace Go.Proofs.Ytnmmgegnioihmaa

theorem hval_cons (x : Nat) (xs : List Nat) : hval (x :: xs) = x + 65536 * hval xs := rfl
theorem hval_drop (us : List Nat) {j : Nat} (h : j < us.length) : hval (us.drop j) = us.getD j 0 + 65536 * hval (us.drop (j + 1)) := by
  rw [List.drop_eq_getElem_cons h, hval_cons, List.getD_eq_getElem?_getD, List.getElem?_eq_getElem h]; rfl
/-! ### words and their halves -/
def halvesL (xs : List Nat) : List Nat := xs.flatMap fun x => [x % 65536, x / 65536]
theorem halvesL_snoc (xs : List Nat) (x : Nat) : halvesL (xs ++ [x]) = halvesL xs ++ [x % 65536, x / 65536] := by simp [halvesL]
theorem halvesL_cons (x : Nat) (xs : List Nat) : halvesL (x :: xs) = x % 65536 :: x / 65536 :: halvesL xs := by simp [halvesL]
theorem halvesL_len (xs : List Nat) : (halvesL xs).length = 2 * xs.length := by
  induction xs with
  | nil => rfl
  | cons x xs ih => rw [halvesL_cons]; simp only [List.length_cons, ih]; omega
theorem halvesL_rgh {xs : List Nat} (h : Rng xs) : Rgh (halvesL xs) := by
  induction xs with
  | nil => exact Rgh.nil
  | cons x xs ih =>
    have := h.head
    rw [halvesL_cons]; exact Rgh.cons (by omega) (Rgh.cons (by omega) (ih h.tail))
theorem halvesL_val (xs : List Nat) : hval (halvesL xs) = val xs := by
  induction xs with
  | nil => rfl
  | cons x xs ih => rw [halvesL_cons, hval_cons, hval_cons, ih, val]; omega
theorem trim_halves {xs : List Nat} (h : Rng xs) : trim (halvesL xs) = dig (val xs) := by rw [trimh_eq (halvesL_rgh h), halvesL_val]
def pairW (h : List Nat) (k : Nat) : List Nat := (List.range k).map fun j => h.getD (2 * j) 0 + h.getD (2 * j + 1) 0 * 65536
theorem pairW_succ (h : List Nat) (k : Nat) : pairW h (k + 1) = pairW h k ++ [h.getD (2 * k) 0 + h.getD (2 * k + 1) 0 * 65536] := by simp [pairW, List.range_succ]
theorem pairW_len (h : List Nat) (k : Nat) : (pairW h k).length = k := by simp [pairW]
theorem pairW_rng {h : List Nat} (hr : Rgh h) (k : Nat) : Rng (pairW h k) := fun v hv => by
  obtain ⟨j, _, rfl⟩ := List.mem_map.1 hv
  have := hr.getD (2 * j)
  have := hr.getD (2 * j + 1)
  omega
theorem pow_two16 (k : Nat) : (4294967296 : Nat) ^ k = 65536 ^ (2 * k) := by rw [Nat.pow_mul]
theorem pairW_val (h : List Nat) (k : Nat) : val (pairW h k) = hval (h.take (2 * k)) := by
  induction k with
  | zero => simp [pairW, val, hval]
  | succ k ih =>
    rw [pairW_succ, val_snoc, ih, pairW_len, show 2 * (k + 1) = 2 * k + 1 + 1 from rfl, hval_take_succ, hval_take_succ, pow_two16, Nat.pow_succ, Nat.mul_add, Nat.mul_assoc, Nat.mul_comm 65536 (h.getD (2 * k + 1) 0)]
    omega
theorem pairW_words {n k : Nat} (h1 : (dig n).length ≤ 2 * k) (h2 : 2 * k ≤ (dig n).length + 1) : pairW (dig n) k = wordsOf n := by
  have hv : val (pairW (dig n) k) = n := by rw [pairW_val, List.take_of_length_le h1, hval_dig]
  have ht := trim_eq (pairW_rng (rgh_dig n) k)
  rw [hv] at ht
  rw [← ht]
  obtain ⟨m, hm, e⟩ := trim_prefix (pairW (dig n) k)
  rw [e]
  refine (List.take_of_length_le ?_).symm
  rw [pairW_len] at hm ⊢
  rcases Nat.lt_or_ge m k with h | h
  · exfalso
    have hl : (wordsOf n).length = m := by rw [← ht, e, List.length_take, pairW_len]; omega
    obtain ⟨d, hd⟩ : ∃ d, (dig n).length = d + 1 := ⟨(dig n).length - 1, by omega⟩
    have h3 := trimh_low (trim_dig n) hd
    rw [hval_dig] at h3
    have h4 := lt_wordsOf_len n
    rw [hl, pow_two16] at h4
    have h5 : (65536 : Nat) ^ (2 * m) ≤ 65536 ^ d := Nat.pow_le_pow_right (by omega) (by omega)
    omega
  · exact h
/-! ### sums -/
theorem hrun_carry {vs : List Nat} {C : Nat} (h : ∀ v ∈ vs, v + C < (C + 1) * 65536) : (hrun vs).2 ≤ C := by
  induction vs using snoc_ind with
  | h0 => simp [hrun_nil]
  | h1 vs v ih =>
    rw [hrun_snoc]
    have h1 := ih fun u hu => h u (List.mem_append_left _ hu)
    have h2 := h v (by simp)
    dsimp only
    have : (v + (hrun vs).2) / 65536 < C + 1 := by rw [Nat.div_lt_iff_lt_mul (by omega)]; omega
    omega
theorem digs_add_carry {us vs : List Nat} (hu : Rgh us) (hv : Rgh vs) (k : Nat) : (hrun (digs us vs (fun x y => x + y) k)).2 ≤ 1 := hrun_carry fun v h => by
  obtain ⟨j, _, rfl⟩ := List.mem_map.1 h
  have := hu.getD j
  have := hv.getD j
  dsimp only
  omega
theorem hadd_end {us vs : List Nat} {k : Nat} (hu : us.length ≤ k) (hv : vs.length ≤ k) (hc : (hrun (digs us vs (fun x y => x + y) k)).2 = 0) : hval (hrun (digs us vs (fun x y => x + y) k)).1 = hval us + hval vs := by
  have := hrun_hval (digs us vs (fun x y => x + y) k)
  rw [hc, hval_digs_add, List.take_of_length_le hu, List.take_of_length_le hv] at this
  omega
theorem hval_digs_mul (us : List Nat) (n k : Nat) : hval (digs us [] (fun x _ => x * n) k) = hval (us.take k) * n := by
  induction k with
  | zero => simp [digs, hval]
  | succ k ih => rw [digs_succ, hval_snoc, ih, digs_len, hval_take_succ, Nat.add_mul, Nat.mul_assoc]
theorem digs_mul_carry {us : List Nat} (hu : Rgh us) {n : Nat} (hn : n ≤ 65536) (k : Nat) : (hrun (digs us [] (fun x _ => x * n) k)).2 ≤ 65535 := hrun_carry fun v h => by
  obtain ⟨j, _, rfl⟩ := List.mem_map.1 h
  have h1 := hu.getD j
  have : us.getD j 0 * n ≤ 65535 * 65536 := Nat.mul_le_mul (by omega) hn
  dsimp only
  omega
theorem hmul_end {us : List Nat} {n k : Nat} (hu : us.length ≤ k) (hc : (hrun (digs us [] (fun x _ => x * n) k)).2 = 0) : hval (hrun (digs us [] (fun x _ => x * n) k)).1 = hval us * n := by
  have := hrun_hval (digs us [] (fun x _ => x * n) k)
  rw [hc, hval_digs_mul, List.take_of_length_le hu] at this
  omega
/-! ### differences -/
def brun (us vs : List Nat) (k : Nat) : List Nat × Nat := (List.range k).foldl (fun p j => if us.getD j 0 < vs.getD j 0 + p.2 then (p.1 ++ [us.getD j 0 + 65536 - (vs.getD j 0 + p.2)], 1) else (p.1 ++ [us.getD j 0 - (vs.getD j 0 + p.2)], 0)) ([], 0)
theorem brun_succ (us vs : List Nat) (k : Nat) : brun us vs (k + 1) = if us.getD k 0 < vs.getD k 0 + (brun us vs k).2 then ((brun us vs k).1 ++ [us.getD k 0 + 65536 - (vs.getD k 0 + (brun us vs k).2)], 1) else ((brun us vs k).1 ++ [us.getD k 0 - (vs.getD k 0 + (brun us vs k).2)], 0) := by
  simp [brun, List.range_succ]
theorem brun_len (us vs : List Nat) (k : Nat) : (brun us vs k).1.length = k := by
  induction k with
  | zero => rfl
  | succ k ih => rw [brun_succ]; split <;> simp [ih]
theorem brun_lent (us vs : List Nat) (k : Nat) : (brun us vs k).2 ≤ 1 := by
  cases k with
  | zero => simp [brun]
  | succ k => rw [brun_succ]; split <;> simp
theorem brun_rgh {us vs : List Nat} (hu : Rgh us) (k : Nat) : Rgh (brun us vs k).1 := by
  induction k with
  | zero => exact Rgh.nil
  | succ k ih =>
    have := hu.getD k
    rw [brun_succ]
    split
    · exact ih.append (Rgh.cons (by omega) Rgh.nil)
    · exact ih.append (Rgh.cons (by omega) Rgh.nil)
theorem brun_val {us vs : List Nat} (hv : Rgh vs) (k : Nat) : hval (brun us vs k).1 + hval (vs.take k) = hval (us.take k) + 65536 ^ k * (brun us vs k).2 := by
  induction k with
  | zero => simp [brun, hval]
  | succ k ih =>
    have h1 := brun_len us vs k
    have h2 := brun_lent us vs k
    have h3 := hv.getD k
    rw [brun_succ, hval_take_succ, hval_take_succ, Nat.pow_succ]
    generalize brun us vs k = b at *
    generalize us.getD k 0 = x at *
    generalize vs.getD k 0 = y at *
    generalize hp : 65536 ^ k = p at *
    split
    · rename_i h
      dsimp only
      rw [hval_snoc, h1, hp]
      obtain ⟨z, hz⟩ : ∃ z, x + 65536 = z + (y + b.2) := ⟨x + 65536 - (y + b.2), by omega⟩
      rw [hz, Nat.add_sub_cancel]
      have h4 : p * x + p * 65536 = p * z + p * y + p * b.2 := by rw [← Nat.mul_add, ← Nat.mul_add, ← Nat.mul_add, hz, Nat.add_assoc]
      omega
    · rename_i h
      dsimp only
      rw [hval_snoc, h1, hp]
      obtain ⟨z, hz⟩ : ∃ z, x = z + (y + b.2) := ⟨x - (y + b.2), by omega⟩
      rw [hz, Nat.add_sub_cancel]
      have h4 : p * (z + (y + b.2)) = p * z + p * y + p * b.2 := by rw [Nat.mul_add, Nat.mul_add, Nat.add_assoc]
      omega
theorem brun_end {us vs : List Nat} (hu : Rgh us) (hv : Rgh vs) (hl : vs.length ≤ us.length) (h : hval vs ≤ hval us) : hval (brun us vs us.length).1 = hval us - hval vs := by
  have h1 := brun_val (us := us) hv us.length
  have h2 := hval_lt (brun_rgh (vs := vs) hu us.length)
  have h3 := brun_lent us vs us.length
  rw [List.take_length, List.take_of_length_le hl] at h1
  rw [brun_len] at h2
  generalize 65536 ^ us.length = p at *
  rcases Nat.lt_or_ge (brun us vs us.length).2 1 with h4 | h4
  · have : (brun us vs us.length).2 = 0 := by omega
    rw [this] at h1; omega
  · have : (brun us vs us.length).2 = 1 := by omega
    rw [this] at h1; omega
/-! ### order -/
theorem heq_above {us vs : List Nat} {k : Nat} (h : ∀ j, k ≤ j → us.getD j 0 = vs.getD j 0) (m : Nat) : hval (us.take (k + m)) + hval (vs.take k) = hval (vs.take (k + m)) + hval (us.take k) := by
  induction m with
  | zero => simp [Nat.add_comm]
  | succ m ih => rw [← Nat.add_assoc, hval_take_succ, hval_take_succ, h (k + m) (by omega)]; omega
theorem heq_all {us vs : List Nat} {k : Nat} (h : ∀ j, k ≤ j → us.getD j 0 = vs.getD j 0) : hval us + hval (vs.take k) = hval vs + hval (us.take k) := by
  have := heq_above h (us.length + vs.length)
  rwa [List.take_of_length_le (show us.length ≤ k + (us.length + vs.length) by omega), List.take_of_length_le (show vs.length ≤ k + (us.length + vs.length) by omega)] at this
theorem hlt_at {us vs : List Nat} (hu : Rgh us) {k : Nat} (h : ∀ j, k + 1 ≤ j → us.getD j 0 = vs.getD j 0) (hk : us.getD k 0 < vs.getD k 0) : hval us < hval vs := by
  have h1 := heq_all h
  rw [hval_take_succ, hval_take_succ] at h1
  have h2 : hval (us.take k) < 65536 ^ k := Nat.lt_of_lt_of_le (hval_lt (hu.take k)) (Nat.pow_le_pow_right (by omega) (by simp; omega))
  generalize 65536 ^ k = p at *
  have h3 : p * (us.getD k 0 + 1) ≤ p * vs.getD k 0 := Nat.mul_le_mul_left _ hk
  rw [Nat.mul_add, Nat.mul_one] at h3
  omega
def hcmp (a b : Nat) : Int := if a < b then -1 else if b < a then 1 else 0
theorem hcmp_lt {a b : Nat} (h : a < b) : hcmp a b = -1 := by unfold hcmp; rw [if_pos h]
theorem hcmp_gt {a b : Nat} (h : b < a) : hcmp a b = 1 := by unfold hcmp; rw [if_neg (by omega), if_pos h]
theorem hcmp_eq {a b : Nat} (h : a = b) : hcmp a b = 0 := by unfold hcmp; rw [if_neg (by omega), if_neg (by omega)]
theorem getD_max {us vs : List Nat} {j : Nat} (h : max us.length vs.length ≤ j) : us.getD j 0 = vs.getD j 0 := by
  rw [List.getD_eq_getElem?_getD, List.getD_eq_getElem?_getD, List.getElem?_eq_none (by omega), List.getElem?_eq_none (by omega)]
theorem heq_zero {us vs : List Nat} (h : ∀ j, 0 ≤ j → us.getD j 0 = vs.getD j 0) : hval us = hval vs := by
  have := heq_all h
  simpa [hval] using this
/-! ### small numbers -/
theorem back_dig {v : Nat} (h : v < 281474976710656) : trim [v % 65536, v / 65536 % 65536, v / 65536 / 65536] = dig v := by
  rw [trimh_eq (Rgh.cons (by omega) (Rgh.cons (by omega) (Rgh.cons (by omega) Rgh.nil)))]
  congr 1
  simp only [hval]
  omega
theorem dig_small {n : Nat} (h : n < 65536) : dig n = if n = 0 then [] else [n] := by
  split
  · rename_i h0; subst h0; exact dig_zero
  · rename_i h0; rw [dig_pos h0, show n / 65536 = 0 by omega, dig_zero, Nat.mod_eq_of_lt h]
theorem hval_single (x : Nat) : hval [x] = x := by simp [hval]
/-- k words from the top are done: the quotient's words qs, the remainder r -/
structure HSmall (us : List Nat) (n k : Nat) (qs : List Nat) (r : Nat) : Prop where
  len : qs.length = us.length
  rgh : Rgh qs
  lt : r < n
  eq : hval (us.drop (us.length - k)) = hval (qs.drop (us.length - k)) * n + r
theorem HSmall.start (us : List Nat) {n : Nat} (hn : 0 < n) : HSmall us n 0 (List.replicate us.length 0) 0 :=
  ⟨by simp, Rgh.replicate _, hn, by simp [hval]⟩
theorem HSmall.step {us qs : List Nat} {n k r : Nat} (h : HSmall us n k qs r) (hu : Rgh us) (hk : k < us.length) :
    HSmall us n (k + 1) (qs.set (us.length - 1 - k) (((r * 65536 + us.getD (us.length - 1 - k) 0) / n) % 65536)) ((r * 65536 + us.getD (us.length - 1 - k) 0) % n) := by
  have hd1 : us.length - (k + 1) = us.length - 1 - k := by omega
  have hd2 : us.length - 1 - k + 1 = us.length - k := by omega
  have hlt := hu.getD (us.length - 1 - k)
  have hr := h.lt
  have hq : (r * 65536 + us.getD (us.length - 1 - k) 0) / n < 65536 := by
    rw [Nat.div_lt_iff_lt_mul (by omega)]
    have : (r + 1) * 65536 ≤ n * 65536 := Nat.mul_le_mul_right _ hr
    rw [Nat.mul_comm 65536 n]
    omega
  refine ⟨by simp [h.len], h.rgh.set _ (Nat.mod_lt _ (by omega)), Nat.mod_lt _ (by omega), ?_⟩
  rw [hd1, hval_drop us (show us.length - 1 - k < us.length by omega), hd2, hval_drop (qs.set _ _) (show us.length - 1 - k < (qs.set _ _).length by rw [List.length_set, h.len]; omega), getD_set_eq _ _ (by rw [h.len]; omega), drop_set_ge _ _ (by omega), hd2, Nat.mod_eq_of_lt hq]
  refine small_ring h.eq ?_
  rw [Nat.mul_comm (_ / n) n]
  exact (Nat.div_add_mod _ n).symm
theorem HSmall.digit {us qs : List Nat} {n k r u : Nat} (h : HSmall us n k qs r) (hu : u < 65536) : (r * 65536 + u) / n < 65536 ∧ r * 65536 + u < n * 65536 := by
  have hr := h.lt
  have : (r + 1) * 65536 ≤ n * 65536 := Nat.mul_le_mul_right _ hr
  refine ⟨?_, by omega⟩
  rw [Nat.div_lt_iff_lt_mul (by omega)]
  rw [Nat.mul_comm 65536 n]
  omega
theorem HSmall.final {us qs : List Nat} {n r : Nat} (h : HSmall us n us.length qs r) : hval us = hval qs * n + r := by
  have := h.eq
  rwa [Nat.sub_self, List.drop_zero, List.drop_zero] at this
theorem HSmall.quot {us qs : List Nat} {n r : Nat} (h : HSmall us n us.length qs r) : hval qs = hval us / n := by
  rw [h.final, Nat.mul_comm, Nat.mul_add_div (by have := h.lt; omega), Nat.div_eq_of_lt h.lt, Nat.add_zero]
theorem HSmall.rem {us qs : List Nat} {n r : Nat} (h : HSmall us n us.length qs r) : r = hval us % n := by
  rw [h.final, Nat.mul_comm, Nat.mul_add_mod, Nat.mod_eq_of_lt h.lt]
end Go.Proofs.Ytnmmgegnioihmaa
namespace Go.Proofs.Ytnmmgegnioihmaa
open Go.RowKit

/-- a digit -/
def encH (x : Nat) : Value := .int .i64 (x : Int)
def IsH (w : World) (v : Value) (xs : List Nat) : Prop := Rgh xs ∧ ∃ A c, v = .slice A xs.length c ∧ Row encH w A c xs
def NH (n0 : Nat) (w : World) (v : Value) (xs : List Nat) : Prop := Rgh xs ∧ ∃ A c, v = .slice A xs.length c ∧ NRow encH n0 w A c xs
section
variable {n0 n1 : Nat} {w w' : World} {v : Value} {xs : List Nat}
theorem NH.is (h : NH n0 w v xs) : IsH w v xs := by obtain ⟨g, A, c, e, h⟩ := h; exact ⟨g, A, c, e, h.toRow⟩
theorem IsH.below (h : IsH w v xs) (hb : Below w.heap.size w w') : IsH w' v xs := by obtain ⟨g, A, c, e, h⟩ := h; exact ⟨g, A, c, e, h.below hb⟩
theorem NH.below (h : NH n0 w v xs) (hb : Below w.heap.size w w') : NH n0 w' v xs := by obtain ⟨g, A, c, e, h⟩ := h; exact ⟨g, A, c, e, h.below hb⟩
theorem NH.mono (h : NH n0 w v xs) (hn : n1 ≤ n0) : NH n1 w v xs := by obtain ⟨g, A, c, e, h⟩ := h; exact ⟨g, A, c, e, h.mono hn⟩
theorem IsH.slice (h : IsH w v xs) : ∃ A c, v = .slice A xs.length c := by obtain ⟨g, A, c, e, h⟩ := h; exact ⟨A, c, e⟩
theorem IsH.nil : IsH w (.slice none 0 0) [] := ⟨Rgh.nil, none, 0, rfl, Row.nil _ _⟩
theorem NH.nil : NH n0 w (.slice none 0 0) [] := ⟨Rgh.nil, none, 0, rfl, NRow.nil _ _ _⟩
theorem IsH.trim (h : IsH w v xs) : ∃ A c, v = .slice A xs.length c ∧ IsH w (.slice A (trim xs).length c) (Ytnmmgegnioihmaa.trim xs) := by
  obtain ⟨g, A, c, e, h⟩ := h
  obtain ⟨k, hk, e2⟩ := trim_prefix xs
  exact ⟨A, c, e, by rw [e2]; exact ⟨g.take k, A, c, rfl, h.take k⟩⟩
theorem NH.trim {A : Option Addr} {n c : Nat} (h : NH n0 w (.slice A n c) xs) : NH n0 w (.slice A (trim xs).length c) (Ytnmmgegnioihmaa.trim xs) := by
  obtain ⟨g, A', c', e, h⟩ := h
  injection e with e1 e2 e3
  subst e1; subst e3
  obtain ⟨k, hk, e2⟩ := trim_prefix xs
  rw [e2]; exact ⟨g.take k, _, _, rfl, h.take k⟩
end
theorem rowh_at {w : World} {A : Option Addr} {c : Nat} {xs : List Nat} (h : Row encH w A c xs) {k : Nat} (hk : k < xs.length) : ∃ b off, A = some ⟨b, off, none⟩ ∧ w.cell? ⟨b, off + k, none⟩ = some (.int .i64 ((xs.getD k 0 : Nat) : Int)) := by
  obtain ⟨b, off, e, hc⟩ := h.rd (by rintro rfl; simp at hk)
  exact ⟨b, off, e, hc k _ (by rw [List.getD_eq_getElem?_getD, List.getElem?_eq_getElem hk]; rfl)⟩
set_option maxHeartbeats 400000 in
theorem htrim_at (A : Option Addr) (c : Nat) (xs : List Nat) (w : World) (h : Row encH w A c xs) :
    Calls Try.prog 172 #[.slice A xs.length c] w fun e w' => e = .returned (.slice A (trim xs).length c) ∧ w = w' := by
  have hle := h.le
  have hc := h.mx
  unfold maxLen at hc
  go_enter Try.func172, Try.ntmps172
  go_wp2
  go_loop [3] (fun v => ∃ k : Nat, k ≤ xs.length ∧ v = .int .i64 k ∧ trim (xs.take k) = trim xs) (fun v => (intOf v).toNat)
  case atStart => exact ⟨xs.length, Nat.le_refl _, rfl, by rw [List.take_length]⟩
  case round =>
    obtain ⟨k, hk, rfl, ht⟩ := hrel
    have HT := Lib.hid ht
    clear ht
    cases k with
    | zero =>
      go_wp2
      go_ret
      exact ⟨by rw [← HT.out]; simp [trim_nil], rfl⟩
    | succ m =>
      obtain ⟨b, off, rfl, hcell⟩ := h.rd (by rintro rfl; simp at hk)
      have hx := hcell m (xs.getD m 0) (by rw [List.getD_eq_getElem?_getD, List.getElem?_eq_getElem (by omega)]; rfl)
      unfold encH at hx
      by_cases h0 : xs.getD m 0 = 0
      · have H0 := trim_take_last (by omega) h0
        have b0 : (((xs[m]?.getD 0 : Nat) : Int) == 0) = true := by rw [← List.getD_eq_getElem?_getD, h0]; rfl
        have H1 := Lib.hid H0
        clear h0 H0
        go_wp2
        go_round
        case rel => exact ⟨m, by omega, by simp, by rw [← H1.out]; exact HT.out⟩
        case measure => simp [intOf]
      · have H0 := trim_take_stop (by omega) h0
        have b0 : (((xs[m]?.getD 0 : Nat) : Int) == 0) = false := by rw [← List.getD_eq_getElem?_getD, beq_eq_false_iff_ne]; omega
        have H1 := Lib.hid H0
        clear h0 H0
        go_wp2
        go_ret
        refine ⟨?_, rfl⟩
        have := H1.out
        rw [HT.out] at this
        rw [this]; simp; omega
/-- trim, of whatever slice value holds the digits -/
theorem htrim_calls {w : World} {v : Value} {xs : List Nat} (h : IsH w v xs) : Calls Try.prog 172 #[v] w fun e w' => ∃ v', e = .returned v' ∧ w = w' ∧ IsH w v' (trim xs) ∧ ∀ n0, NH n0 w v xs → NH n0 w v' (trim xs) := by
  have h' := h.trim
  obtain ⟨A, c, rfl, h2⟩ := h'
  obtain ⟨hr, A', c', e, hrow⟩ := h
  injection e with e1 e2 e3
  subst e1; subst e3
  exact (htrim_at A c xs w hrow).mono fun e w' ⟨he, hw⟩ => ⟨_, he, hw, h2, fun n0 hN => hN.trim⟩
set_option maxHeartbeats 400000 in
theorem hat_calls (v : Value) (xs : List Nat) (k : Nat) (w : World) (h : IsH w v xs) :
    Calls Try.prog 173 #[v, .int .i64 (k : Int)] w fun e w' => e = .returned (.int .i64 ((xs.getD k 0 : Nat) : Int)) ∧ w = w' := by
  obtain ⟨hr, A, c, rfl, hrow⟩ := h
  by_cases hlt : k < xs.length
  · obtain ⟨b, off, rfl, hc⟩ := rowh_at hrow hlt
    generalize xs.getD k 0 = x at *
    go_enter Try.func173, Try.ntmps173
    go_wp2
    go_ret
    exact ⟨rfl, rfl⟩
  · have he : xs.getD k 0 = 0 := by rw [List.getD_eq_getElem?_getD, List.getElem?_eq_none (by omega)]; rfl
    rw [he]
    go_enter Try.func173, Try.ntmps173
    go_wp2
    go_ret
    exact ⟨rfl, rfl⟩
set_option maxHeartbeats 1000000 in
theorem hcmp_calls (va vb : Value) (us vs : List Nat) (w : World) (ha : IsH w va us) (hb : IsH w vb vs) (hlen : us.length ≤ 35184372088832 ∧ vs.length ≤ 35184372088832) :
    Calls Try.prog 165 #[va, vb] w fun e w' => e = .returned (.int .i64 (hcmp (hval us) (hval vs))) ∧ w = w' := by
  have ha' := ha
  have hb' := hb
  obtain ⟨ru, A, ca, rfl, _⟩ := ha
  obtain ⟨rv, B, cb, rfl, _⟩ := hb
  obtain ⟨m, hm⟩ : ∃ m, m = max us.length vs.length := ⟨_, rfl⟩
  have h9 : ∀ ts t W, (Builtin.max_ ts t #[.int .i64 (us.length : Int), .int .i64 (vs.length : Int)]).run Try.prog W = .ok (.int .i64 (m : Int)) W := fun ts t W => by
    rw [run_max_int2, hm]; congr 2; split <;> omega
  have hm2 : m ≤ 35184372088832 := by omega
  have HM := Lib.hid hm
  have HL := Lib.hid hlen
  clear hm hlen
  go_enter Try.func165, Try.ntmps165
  go_wp2
  clear h9
  go_loop [5] (fun i => ∃ k : Nat, k ≤ m ∧ i = .int .i64 ((k : Int) - 1) ∧ Hid (∀ j, k ≤ j → us.getD j 0 = vs.getD j 0)) (fun i => (intOf i + 1).toNat)
  case atStart => exact ⟨m, Nat.le_refl _, rfl, Lib.hid fun j hj => getD_max (by rw [← HM.out]; exact hj)⟩
  case round =>
    obtain ⟨k, hk, rfl, HK⟩ := hrel
    cases k with
    | zero =>
      go_wp2
      go_ret
      exact ⟨ret_int (by rw [hcmp_eq (heq_zero HK.out)]), rfl⟩
    | succ n =>
      have e0 : ((n + 1 : Nat) : Int) - 1 = (n : Int) := by omega
      rw [e0]
      obtain ⟨x, hx⟩ : ∃ x, x = us.getD n 0 := ⟨_, rfl⟩
      obtain ⟨y, hy⟩ : ∃ y, y = vs.getD n 0 := ⟨_, rfl⟩
      have HX := Lib.hid hx
      have HY := Lib.hid hy
      clear hx hy e0
      rcases Nat.lt_trichotomy x y with h | h | h
      · have d1 : decide ((x : Int) < (y : Int)) = true := by simpa using h
        go_wp2_with (first
          | (go_at_call 173; (with_reducible refine (hat_calls _ us n _ ha').mono ?_); rintro e w' ⟨rfl, rfl⟩; rw [← HX.out])
          | (go_at_call 173; (with_reducible refine (hat_calls _ vs n _ hb').mono ?_); rintro e w' ⟨rfl, rfl⟩; rw [← HY.out]))
        go_ret
        exact ⟨ret_int (by rw [hcmp_lt (hlt_at ru HK.out (by rw [← HX.out, ← HY.out]; exact h))]), rfl⟩
      · subst h
        have HK' : Hid (∀ j, n ≤ j → us.getD j 0 = vs.getD j 0) := Lib.hid fun j hj => by
          rcases Nat.eq_or_lt_of_le hj with e | h
          · rw [← e, ← HX.out, ← HY.out]
          · exact HK.out j h
        go_wp2_with (first
          | (go_at_call 173; (with_reducible refine (hat_calls _ us n _ ha').mono ?_); rintro e w' ⟨rfl, rfl⟩; rw [← HX.out])
          | (go_at_call 173; (with_reducible refine (hat_calls _ vs n _ hb').mono ?_); rintro e w' ⟨rfl, rfl⟩; rw [← HY.out]))
        go_round
        case rel => exact ⟨n, by omega, rfl, HK'⟩
        case measure => simp [intOf]
      · have d1 : decide ((x : Int) < (y : Int)) = false := by simp; omega
        have d2 : decide ((y : Int) < (x : Int)) = true := by simpa using h
        go_wp2_with (first
          | (go_at_call 173; (with_reducible refine (hat_calls _ us n _ ha').mono ?_); rintro e w' ⟨rfl, rfl⟩; rw [← HX.out])
          | (go_at_call 173; (with_reducible refine (hat_calls _ vs n _ hb').mono ?_); rintro e w' ⟨rfl, rfl⟩; rw [← HY.out]))
        go_ret
        exact ⟨ret_int (by rw [hcmp_gt (hlt_at rv (fun j hj => (HK.out j hj).symm) (by rw [← HX.out, ← HY.out]; exact h))]), rfl⟩
set_option maxHeartbeats 1000000 in
theorem hsmall_calls (v : Value) (xs : List Nat) (w : World) (h : IsH w v xs) (hlen : xs.length ≤ 3) :
    Calls Try.prog 175 #[v] w fun e w' => e = .returned (.int .i64 ((hval xs : Nat) : Int)) ∧ w = w' := by
  obtain ⟨hr, A, c, rfl, hrow⟩ := h
  have HL := Lib.hid hlen
  go_enter Try.func175, Try.ntmps175
  go_wp2
  go_loop [3, 4] (fun v i => ∃ k n : Nat, k ≤ xs.length ∧ i = .int .i64 ((k : Int) - 1) ∧ v = .int .i64 (n : Int) ∧ Hid (n = hval (xs.drop k))) (fun _ i => (intOf i + 1).toNat)
  case atStart => exact ⟨xs.length, 0, Nat.le_refl _, rfl, rfl, Lib.hid (by simp [hval])⟩
  case round =>
    obtain ⟨k, n, hk, rfl, rfl, HN⟩ := hrel
    cases k with
    | zero =>
      go_wp2
      go_ret
      exact ⟨ret_int (by rw [HN.out, List.drop_zero]), rfl⟩
    | succ j =>
      have e0 : ((j + 1 : Nat) : Int) - 1 = (j : Int) := by omega
      rw [e0]
      obtain ⟨b, off, rfl, hc⟩ := rowh_at hrow (show j < xs.length by omega)
      have hd := hval_drop xs (show j < xs.length by omega)
      have hx := hr.getD j
      generalize xs.getD j 0 = x at *
      have hn : n < 4294967296 := by
        have h1 : (xs.drop (j + 1)).length ≤ 2 := by simp; omega
        have h2 := hval_lt (hr.drop (j + 1))
        have h3 : (65536 : Nat) ^ (xs.drop (j + 1)).length ≤ 65536 ^ 2 := Nat.pow_le_pow_right (by omega) h1
        rw [HN.out]; omega
      have HD := Lib.hid hd
      clear hd e0
      have hj1 : (j : Int) < (xs.length : Int) := by omega
      go_wp2
      go_round
      case rel => exact ⟨j, x + 65536 * n, by omega, by simp, by simp; omega, Lib.hid (by rw [HD.out, HN.out])⟩
      case measure => simp [intOf]
theorem lit3_N (w : World) (T : TypeId) {x y z : Nat} (hx : x < 65536) (hy : y < 65536) (hz : z < 65536) : NH w.heap.size (w.alloc (.cells #[.int .i64 (x : Int), .int .i64 (y : Int), .int .i64 (z : Int)] T)) (.slice (some ⟨w.heap.size, 0, none⟩) 3 3) [x, y, z] :=
  ⟨Rgh.cons hx (Rgh.cons hy (Rgh.cons hz Rgh.nil)), _, _, rfl, NRow.new (heap_alloc_new w _) (Nat.le_refl _) (by unfold maxLen; omega) (by simp) (fun j y hj => by
    match j, hj with
    | 0, hj => simp at hj; subst hj; rfl
    | 1, hj => simp at hj; subst hj; rfl
    | 2, hj => simp at hj; subst hj; rfl
    | j + 3, hj => simp at hj)⟩
set_option maxHeartbeats 1000000 in
theorem hback_calls (n : Nat) (w : World) (hn : n < 281474976710656) :
    Calls Try.prog 174 #[.int .i64 (n : Int)] w fun e w' => ∃ v, e = .returned v ∧ NH w.heap.size w' v (dig n) ∧ Below w.heap.size w w' := by
  have H3 := back_dig hn
  obtain ⟨x, hx⟩ : ∃ x, x = n % 65536 := ⟨_, rfl⟩
  obtain ⟨y, hy⟩ : ∃ y, y = n / 65536 % 65536 := ⟨_, rfl⟩
  obtain ⟨z, hz⟩ : ∃ z, z = n / 65536 / 65536 := ⟨_, rfl⟩
  rw [← hx, ← hy, ← hz] at H3
  have hx1 : x < 65536 := by omega
  have hy1 : y < 65536 := by omega
  have hz1 : z < 65536 := by omega
  have HX := Lib.hid (show (n : Int) % 65536 = (x : Int) by omega)
  have HY := Lib.hid (show (n : Int) / 65536 % 65536 = (y : Int) by omega)
  have HZ := Lib.hid (show (n : Int) / 65536 / 65536 = (z : Int) by omega)
  have H4 := Lib.hid H3
  clear hx hy hz H3
  go_enter Try.func174, Try.ntmps174
  go_wp2_with (go_at_call 172; (try rw [HX.out, HY.out, HZ.out]); refine (htrim_calls (lit3_N _ _ hx1 hy1 hz1).is).mono ?_; rintro e w' ⟨v', rfl, rfl, hI, hN⟩)
  go_ret
  exact ⟨_, rfl, by rw [← H4.out]; exact hN _ (lit3_N _ _ hx1 hy1 hz1), bl_alloc _ _⟩
end Go.Proofs.Ytnmmgegnioihmaa
namespace Go.Proofs.Ytnmmgegnioihmaa
open Go.RowKit

theorem und_intS : Try.prog.underlying 22 = some (.slice 3) := Try.underlying22
theorem info_intS : (Try.prog.info? 3).map (fun i => (i.zero, i.size, i.bytes)) = some (some (.int .i64 0), 1, 8) := by kernel_rfl
/-- a row of the call's own, of digits -/
abbrev OwnH (base : Nat) (w : World) (v : Value) (n : Nat) (xs : List Nat) : Prop := w.ownsRow base 3 1 v n (xs.map encH)
theorem OwnH.nh {base n : Nat} {w : World} {v : Value} {xs : List Nat} (h : OwnH base w v n xs) (hr : Rgh xs) : NH base w v xs := by
  obtain ⟨A, c, e, hl, hN⟩ := NRow.of_own h
  exact ⟨hr, A, c, e, hN⟩
/-- append(v, x) -/
theorem append_h1 {w : World} {ops : Array Oper} {rest : List Oper} {o : Oper} {a : Act} {Q : Exit → Act → World → Prop} (X : Int) (x : Nat) (T : TypeId) (hgd : o.guard = none) (s xo : Operand)
    (ho : o.op = .call { callee := .builtin .append, args := #[s, xo], argTypes := #[22, 22] }) (base : Nat) (O : Option Addr) (k oc : Nat) (hs : a.eval s = .slice O k oc) (xs : List Nat) (hown : OwnH base w (.slice O k oc) k xs)
    (hx : a.eval xo = .slice (some ⟨w.heap.size, 0, none⟩) 1 1) (hX : X = (x : Int)) (hlen : k + 1 ≤ 17592186044416) (hbase : base ≤ w.heap.size)
    (h : ∀ O2 oc2 w', OwnH base w' (.slice O2 (k + 1) oc2) (k + 1) (xs ++ [x]) → (∀ w0 : World, w0.heap.size ≤ base → Below w0.heap.size w0 w → Below w0.heap.size w0 w') → wpList Try.prog ops Q rest (a.put o.dst (.slice O2 (k + 1) oc2)) w') :
    wpList Try.prog ops Q (o :: rest) a (w.alloc (.cells #[.int .i64 X] T)) := by
  subst hX
  obtain ⟨i0, hi, hz0, hz1, hz2⟩ := info_parts info_intS
  refine wpList_append_own _ hgd s xo 22 ho base 3 i0 (.int .i64 0) 1 8 und_intS hi hz0 hz1 hz2 rfl (by decide) (.slice O k oc) k (xs.map encH) hs (hown.alloc _) ⟨w.heap.size, 0, none⟩ 1 1 [.int .i64 (x : Int)] hx rfl (cell_one_new _ _ _) (by simp [Value.oneCell']) (by unfold maxLen; omega) (by omega) (Nat.le_trans hbase (by simp)) ?_
  intro vo' w1 hown1 hg1 _
  obtain ⟨g', cap', rfl⟩ := ownsRow_succ hown1
  refine h _ _ _ (by simpa [OwnH, encH] using hown1) fun w0 h0 hb0 => ?_
  exact grown_below (hb0.trans ((bl_alloc w _).mono hb0.size)) hg1 (Nat.le_trans h0 (Nat.le_trans hbase (by simp))) (fun j e => Nat.le_trans h0 (hown.lt j e).1)
def PostH (w : World) (n : Nat) (e : Ending) (w' : World) : Prop := ∃ v, e = .returned v ∧ NH w.heap.size w' v (dig n) ∧ Below w.heap.size w w'
theorem own_none {base : Nat} {w : World} {v : Value} {n : Nat} {xs : List Value} (h : w.ownsRow base 3 1 v n xs) : ∀ k, v.ownBlock = some k → base ≤ k ∧ k < w.heap.size := h.lt
set_option maxHeartbeats 2000000 in
theorem hadd_calls (va vb : Value) (us vs : List Nat) (w : World) (ha : IsH w va us) (hb : IsH w vb vs) (hlen : us.length ≤ 4398046511104 ∧ vs.length ≤ 4398046511104) :
    Calls Try.prog 164 #[va, vb] w (PostH w (hval us + hval vs)) := by
  have ha' := ha
  have hb' := hb
  obtain ⟨ru, A, ca, rfl, _⟩ := ha
  obtain ⟨rv, B, cb, rfl, _⟩ := hb
  have HL := Lib.hid hlen
  clear hlen
  go_enter Try.func164, Try.ntmps164
  go_wp2
  go_loopw [5, 6, 7] (fun o c i wr => ∃ (k cr : Nat) (O : Option Addr) (oc : Nat), i = .int .i64 k ∧ o = .slice O k oc ∧ c = .int .i64 (cr : Int) ∧ cr ≤ 1 ∧ Hid (cr = (hrun (digs us vs (fun x y => x + y) k)).2) ∧ OwnH w.heap.size wr (.slice O k oc) k (hrun (digs us vs (fun x y => x + y) k)).1 ∧
      Hid (k ≤ max us.length vs.length ∨ (k = max us.length vs.length + 1 ∧ cr = 0)) ∧ Below w.heap.size w wr) (fun _ c i _ => 2 * (max us.length vs.length - (intOf i).toNat) + (intOf c).toNat)
  case atStart => exact ⟨0, 0, none, 0, rfl, rfl, rfl, by omega, Lib.hid rfl, World.ownsRow_nil _ _ _ _, Lib.hid (.inl (Nat.zero_le _)), Below.refl _ _⟩
  case round =>
    obtain ⟨k, cr, O, oc, rfl, rfl, rfl, hcr, HCR, hown, HK, hbl⟩ := hrel
    obtain ⟨x, hx⟩ : ∃ x, x = us.getD k 0 := ⟨_, rfl⟩
    obtain ⟨y, hy⟩ : ∃ y, y = vs.getD k 0 := ⟨_, rfl⟩
    have hx1 := ru.getD k
    have hy1 := rv.getD k
    rw [← hx] at hx1
    rw [← hy] at hy1
    have hs := hrun_snoc (digs us vs (fun x y => x + y) k) (us.getD k 0 + vs.getD k 0)
    rw [← digs_succ us vs (fun x y => x + y) k] at hs
    have HS := Lib.hid hs
    have HX := Lib.hid hx
    have HY := Lib.hid hy
    clear hx hy hs
    by_cases hgo : k < us.length ∨ k < vs.length ∨ 0 < cr
    · have hk1 : k + 1 ≤ 17592186044416 := by have := HK.out; have := HL.out; omega
      have HK2 : Hid (k + 1 ≤ max us.length vs.length ∨ (k + 1 = max us.length vs.length + 1 ∧ (x + y + cr) / 65536 = 0)) := Lib.hid (by
        have h1 := HK.out
        by_cases hk : k < max us.length vs.length
        · left; omega
        · right
          have e1 : x = 0 := by rw [HX.out, List.getD_eq_getElem?_getD, List.getElem?_eq_none (by omega)]; rfl
          have e2 : y = 0 := by rw [HY.out, List.getD_eq_getElem?_getD, List.getElem?_eq_none (by omega)]; rfl
          omega)
      have HM : Hid (2 * (max us.length vs.length - (k + 1)) + (x + y + cr) / 65536 < 2 * (max us.length vs.length - k) + cr) := Lib.hid (by
        have h1 := HK2.out
        have h2 := HK.out
        have h3 : (x + y + cr) / 65536 ≤ 1 := by omega
        by_cases hk : k < max us.length vs.length
        · omega
        · omega)
      have hcases : (k < us.length) ∨ (¬ k < us.length ∧ k < vs.length) ∨ (¬ k < us.length ∧ ¬ k < vs.length ∧ 0 < cr) := by omega
      clear hgo
      rcases hcases with h1 | ⟨h1, h2⟩ | ⟨h1, h2, h3⟩
      all_goals
        go_wp2_with (first
          | (go_at_call 173; (with_reducible refine (hat_calls _ us k _ (ha'.below hbl)).mono ?_); rintro e w' ⟨rfl, rfl⟩; rw [← HX.out])
          | (go_at_call 173; (with_reducible refine (hat_calls _ vs k _ (hb'.below hbl)).mono ?_); rintro e w' ⟨rfl, rfl⟩; rw [← HY.out])
          | (at_builtin; refine append_h1 _ ((x + y + cr) % 65536) _ rfl _ _ rfl w.heap.size O k oc rfl _ hown rfl (by simp) hk1 hbl.size ?_; intro O2 oc2 w2 hown2 hb2))
        go_roundw
        case rel => exact ⟨k + 1, (x + y + cr) / 65536, O2, oc2, by simp, rfl, by simp, by omega, Lib.hid (by rw [HS.out, ← HCR.out, ← HX.out, ← HY.out]), by rw [HS.out, ← HCR.out, ← HX.out, ← HY.out]; exact hown2, HK2, hb2 w (Nat.le_refl _) hbl⟩
        case measure => have := HM.out; simp [intOf]; omega
    · have h1 : ¬ k < us.length := by omega
      have h2 : ¬ k < vs.length := by omega
      obtain rfl : cr = 0 := by omega
      have he := hadd_end (us := us) (vs := vs) (k := k) (by omega) (by omega) HCR.out.symm
      have HE := Lib.hid he
      clear he hgo
      have hN := hown.nh (hrun_rgh _)
      go_wp2_with (go_at_call 172; refine (htrim_calls hN.is).mono ?_; rintro e w' ⟨v', rfl, rfl, hI, hNt⟩)
      go_ret
      exact ⟨_, rfl, by rw [← HE.out, ← trimh_eq (hrun_rgh _)]; exact hNt _ hN, hbl⟩
end Go.Proofs.Ytnmmgegnioihmaa
namespace Go.Proofs.Ytnmmgegnioihmaa
open Go.RowKit

set_option maxHeartbeats 2000000 in
theorem htimes_calls (va : Value) (us : List Nat) (n : Nat) (w : World) (ha : IsH w va us) (hn : n ≤ 65536) (hlen : us.length ≤ 4398046511104) :
    Calls Try.prog 176 #[va, .int .i64 (n : Int)] w (PostH w (hval us * n)) := by
  have ha' := ha
  obtain ⟨ru, A, ca, rfl, _⟩ := ha
  have HL := Lib.hid hlen
  have HN := Lib.hid hn
  clear hlen hn
  go_enter Try.func176, Try.ntmps176
  go_wp2
  go_loopw [5, 6, 7] (fun o c i wr => ∃ (k cr : Nat) (O : Option Addr) (oc : Nat), i = .int .i64 k ∧ o = .slice O k oc ∧ c = .int .i64 (cr : Int) ∧ cr ≤ 65535 ∧ Hid (cr = (hrun (digs us [] (fun x _ => x * n) k)).2) ∧ OwnH w.heap.size wr (.slice O k oc) k (hrun (digs us [] (fun x _ => x * n) k)).1 ∧
      Hid (k ≤ us.length ∨ (k = us.length + 1 ∧ cr = 0)) ∧ Below w.heap.size w wr) (fun _ c i _ => 2 * (us.length - (intOf i).toNat) + (if intOf c = 0 then 0 else 1))
  case atStart => exact ⟨0, 0, none, 0, rfl, rfl, rfl, by omega, Lib.hid rfl, World.ownsRow_nil _ _ _ _, Lib.hid (.inl (Nat.zero_le _)), Below.refl _ _⟩
  case round =>
    obtain ⟨k, cr, O, oc, rfl, rfl, rfl, hcr, HCR, hown, HK, hbl⟩ := hrel
    obtain ⟨x, hx⟩ : ∃ x, x = us.getD k 0 := ⟨_, rfl⟩
    have hx1 := ru.getD k
    rw [← hx] at hx1
    have hs := hrun_snoc (digs us [] (fun x _ => x * n) k) (us.getD k 0 * n)
    rw [← digs_succ us [] (fun x _ => x * n) k] at hs
    have HS := Lib.hid hs
    have HX := Lib.hid hx
    obtain ⟨p, hp⟩ : ∃ p, p = x * n := ⟨_, rfl⟩
    have hp1 : p ≤ 65535 * 65536 := by rw [hp]; exact Nat.mul_le_mul (by omega) HN.out
    have HPC := Lib.hid (show (x : Int) * (n : Int) = (p : Int) by rw [hp]; simp)
    have HP := Lib.hid hp
    clear hp
    clear hx hs
    by_cases hgo : k < us.length ∨ 0 < cr
    · have hk1 : k + 1 ≤ 17592186044416 := by have := HK.out; have := HL.out; omega
      have HK2 : Hid (k + 1 ≤ us.length ∨ (k + 1 = us.length + 1 ∧ (p + cr) / 65536 = 0)) := Lib.hid (by
        have h1 := HK.out
        by_cases hk : k < us.length
        · left; omega
        · right
          have e1 : us.getD k 0 = 0 := by rw [ List.getD_eq_getElem?_getD, List.getElem?_eq_none (by omega)]; rfl
          have e2 : p = 0 := by rw [HP.out, HX.out, e1, Nat.zero_mul]
          omega)
      have HM : Hid (2 * (us.length - (k + 1)) + (if (((p + cr) / 65536 : Nat) : Int) = 0 then 0 else 1) < 2 * (us.length - k) + (if (cr : Int) = 0 then 0 else 1)) := Lib.hid (by
        have h1 := HK2.out
        have h2 := HK.out
        have h3 : (p + cr) / 65536 ≤ 65535 := by omega
        by_cases hk : k < us.length
        · split <;> split <;> omega
        · have h5 : (p + cr) / 65536 = 0 := by omega
          rw [h5]; split <;> split <;> omega)
      have hcases : (k < us.length) ∨ (¬ k < us.length ∧ 0 < cr) := by omega
      clear hgo
      rcases hcases with h1 | ⟨h1, h2⟩
      all_goals
        go_wp2_with (first
          | (go_at_call 173; (with_reducible refine (hat_calls _ us k _ (ha'.below hbl)).mono ?_); rintro e w' ⟨rfl, rfl⟩; rw [← HX.out]; have hpc : (x : Int) * (n : Int) = (p : Int) := HPC.out)
          | (at_builtin; refine append_h1 _ ((p + cr) % 65536) _ rfl _ _ rfl w.heap.size O k oc rfl _ hown rfl (by simp) hk1 hbl.size ?_; intro O2 oc2 w2 hown2 hb2))
        go_roundw
        case rel => exact ⟨k + 1, (p + cr) / 65536, O2, oc2, by simp, rfl, by simp, by omega, Lib.hid (by rw [HS.out, ← HCR.out, ← HX.out, ← HP.out]), by rw [HS.out, ← HCR.out, ← HX.out, ← HP.out]; exact hown2, HK2, hb2 w (Nat.le_refl _) hbl⟩
        case measure => have := HM.out; simp [intOf] at this ⊢; exact this
    · have h1 : ¬ k < us.length := by omega
      obtain rfl : cr = 0 := by omega
      have he := hmul_end (us := us) (n := n) (k := k) (by omega) HCR.out.symm
      have HE := Lib.hid he
      clear he hgo
      have hN := hown.nh (hrun_rgh _)
      go_wp2_with (go_at_call 172; refine (htrim_calls hN.is).mono ?_; rintro e w' ⟨v', rfl, rfl, hI, hNt⟩)
      go_ret
      exact ⟨_, rfl, by rw [← HE.out, ← trimh_eq (hrun_rgh _)]; exact hNt _ hN, hbl⟩
set_option maxHeartbeats 2000000 in
theorem hsub_calls (va vb : Value) (us vs : List Nat) (w : World) (ha : IsH w va us) (hb : IsH w vb vs) (hlen : us.length ≤ 4398046511104) (hl : vs.length ≤ us.length) (hle : hval vs ≤ hval us) :
    Calls Try.prog 166 #[va, vb] w (PostH w (hval us - hval vs)) := by
  have ha' := ha
  have hb' := hb
  obtain ⟨ru, A, ca, rfl, _⟩ := ha
  obtain ⟨rv, B, cb, rfl, _⟩ := hb
  have HL := Lib.hid hlen
  have HB := Lib.hid (brun_end ru rv hl hle)
  clear hlen hl hle
  go_enter Try.func166, Try.ntmps166
  go_wp2
  go_loopw [5, 6, 7] (fun o c i wr => ∃ (k b : Nat) (O : Option Addr) (oc : Nat), k ≤ us.length ∧ i = .int .i64 k ∧ o = .slice O k oc ∧ c = .int .i64 (b : Int) ∧ b ≤ 1 ∧ Hid (b = (brun us vs k).2) ∧ OwnH w.heap.size wr (.slice O k oc) k (brun us vs k).1 ∧ Below w.heap.size w wr) (fun _ _ i _ => us.length - (intOf i).toNat)
  case atStart => exact ⟨0, 0, none, 0, Nat.zero_le _, rfl, rfl, rfl, by omega, Lib.hid rfl, World.ownsRow_nil _ _ _ _, Below.refl _ _⟩
  case round =>
    obtain ⟨k, b, O, oc, hk, rfl, rfl, rfl, hb1, HBB, hown, hbl⟩ := hrel
    by_cases hlt : k < us.length
    · obtain ⟨x, hx⟩ : ∃ x, x = us.getD k 0 := ⟨_, rfl⟩
      obtain ⟨y, hy⟩ : ∃ y, y = vs.getD k 0 := ⟨_, rfl⟩
      have hx1 := ru.getD k
      have hy1 := rv.getD k
      rw [← hx] at hx1
      rw [← hy] at hy1
      have HS := Lib.hid (brun_succ us vs k)
      have HX := Lib.hid hx
      have HY := Lib.hid hy
      have hk1 : k + 1 ≤ 17592186044416 := by have := HL.out; omega
      clear hx hy
      by_cases hless : x < y + b
      · have hS2 : Hid (brun us vs (k + 1) = ((brun us vs k).1 ++ [x + 65536 - (y + b)], 1)) := Lib.hid (by rw [HS.out, ← HX.out, ← HY.out, ← HBB.out, if_pos hless])
        have d1 : (x : Int) - (y : Int) - (b : Int) < 0 := by omega
        go_wp2_with (first
          | (go_at_call 173; (with_reducible refine (hat_calls _ us k _ (ha'.below hbl)).mono ?_); rintro e w' ⟨rfl, rfl⟩; rw [← HX.out])
          | (go_at_call 173; (with_reducible refine (hat_calls _ vs k _ (hb'.below hbl)).mono ?_); rintro e w' ⟨rfl, rfl⟩; rw [← HY.out])
          | (at_builtin; refine append_h1 _ (x + 65536 - (y + b)) _ rfl _ _ rfl w.heap.size O k oc rfl _ hown rfl (by omega) hk1 hbl.size ?_; intro O2 oc2 w2 hown2 hb2))
        go_roundw
        case rel => exact ⟨k + 1, 1, O2, oc2, by omega, by simp, rfl, rfl, by omega, Lib.hid (by rw [hS2.out]), by rw [hS2.out]; exact hown2, hb2 w (Nat.le_refl _) hbl⟩
        case measure => simp [intOf]; omega
      · have hS2 : Hid (brun us vs (k + 1) = ((brun us vs k).1 ++ [x - (y + b)], 0)) := Lib.hid (by rw [HS.out, ← HX.out, ← HY.out, ← HBB.out, if_neg hless])
        have d1 : 0 ≤ (x : Int) - (y : Int) - (b : Int) := by omega
        go_wp2_with (first
          | (go_at_call 173; (with_reducible refine (hat_calls _ us k _ (ha'.below hbl)).mono ?_); rintro e w' ⟨rfl, rfl⟩; rw [← HX.out])
          | (go_at_call 173; (with_reducible refine (hat_calls _ vs k _ (hb'.below hbl)).mono ?_); rintro e w' ⟨rfl, rfl⟩; rw [← HY.out])
          | (at_builtin; refine append_h1 _ (x - (y + b)) _ rfl _ _ rfl w.heap.size O k oc rfl _ hown rfl (by omega) hk1 hbl.size ?_; intro O2 oc2 w2 hown2 hb2))
        go_roundw
        case rel => exact ⟨k + 1, 0, O2, oc2, by omega, by simp, rfl, rfl, by omega, Lib.hid (by rw [hS2.out]), by rw [hS2.out]; exact hown2, hb2 w (Nat.le_refl _) hbl⟩
        case measure => simp [intOf]; omega
    · obtain rfl : k = us.length := by omega
      have hN := hown.nh (brun_rgh ru _)
      go_wp2_with (go_at_call 172; refine (htrim_calls hN.is).mono ?_; rintro e w' ⟨v', rfl, rfl, hI, hNt⟩)
      go_ret
      exact ⟨_, rfl, by rw [← HB.out, ← trimh_eq (brun_rgh ru _)]; exact hNt _ hN, hbl⟩
end Go.Proofs.Ytnmmgegnioihmaa
namespace Go.Proofs.Ytnmmgegnioihmaa
open Go.RowKit

theorem roww_at {w : World} {A : Option Addr} {c : Nat} {xs : List Nat} (h : Row encW w A c xs) {k : Nat} (hk : k < xs.length) : ∃ b off, A = some ⟨b, off, none⟩ ∧ w.cell? ⟨b, off + k, none⟩ = some (.int .u32 ((xs.getD k 0 : Nat) : Int)) := by
  obtain ⟨b, off, e, hc⟩ := h.rd (by rintro rfl; simp at hk)
  exact ⟨b, off, e, hc k _ (by rw [List.getD_eq_getElem?_getD, List.getElem?_eq_getElem hk]; rfl)⟩
set_option maxHeartbeats 2000000 in
theorem hhalves_calls (v : Value) (xs : List Nat) (w : World) (h : IsW w v xs) (hlen : xs.length ≤ 4398046511104) :
    Calls Try.prog 162 #[v] w (PostH w (val xs)) := by
  obtain ⟨hr, A, c, rfl, hrow⟩ := h
  have HL := Lib.hid hlen
  obtain ⟨i0, hi, hz0, hz1, hz2⟩ := info_parts info_intS
  go_enter Try.func162, Try.ntmps162
  go_wp2
  go_loopw [3, 4] (fun o i wr => ∃ (k m : Nat) (O : Option Addr) (oc : Nat), k ≤ xs.length ∧ i = .int .i64 k ∧ Hid (m = 2 * k) ∧ o = .slice O m oc ∧ OwnH w.heap.size wr (.slice O m oc) m (halvesL (xs.take k)) ∧ Below w.heap.size w wr) (fun _ i _ => xs.length - (intOf i).toNat)
  case atStart => exact ⟨0, 0, none, 0, Nat.zero_le _, rfl, Lib.hid rfl, rfl, World.ownsRow_nil _ _ _ _, Below.refl _ _⟩
  case round =>
    obtain ⟨k, m, O, oc, hk, rfl, HM, rfl, hown, hbl⟩ := hrel
    by_cases hlt : k < xs.length
    · obtain ⟨b, off, rfl, hc⟩ := roww_at hrow hlt
      have hbb := World.block_lt_of_cell? w _ hc
      dsimp only at hbb
      have hc1 := bl_cell hbl hc
      have hx := hr.getD k
      have HT := Lib.hid (show halvesL (xs.take (k + 1)) = halvesL (xs.take k) ++ [xs.getD k 0 % 65536, xs.getD k 0 / 65536] by
        rw [List.take_succ_eq_append_getElem hlt, halvesL_snoc, List.getD_eq_getElem?_getD, List.getElem?_eq_getElem hlt]; rfl)
      generalize xs.getD k 0 = x at *
      have hne : (Value.slice O m oc).ownBlock ≠ some b := fun e => by have := (hown.lt b e).1; omega
      have hm1 : m + 2 ≤ 17592186044416 := by have := HM.out; omega
      obtain ⟨lo, hlo⟩ : ∃ lo, lo = x % 65536 := ⟨_, rfl⟩
      obtain ⟨up, hup⟩ : ∃ up, up = x / 65536 := ⟨_, rfl⟩
      have e1 : IntKind.i64.wrap ((x : Int).tmod 65536) = (lo : Int) := by
        rw [Int.tmod_eq_emod_of_nonneg (by omega)]; simp only [IntKind.wrap]; simp [IntKind.bits, IntKind.signed]; omega
      have e2 : IntKind.i64.wrap (IntKind.u32.wrap ((x : Int) / 65536)) = (up : Int) := by
        simp only [IntKind.wrap]; simp [IntKind.bits, IntKind.signed]; omega
      rw [← hlo, ← hup] at HT
      clear hc hlo hup
      go_wp2
      go_region_held3 (fun w' => w'.cell? ⟨b, off + k, none⟩ = some (.int .u32 (x : Int)))
        (first
          | go_keep
          | (rw [hgrow.cell_far _ (by have := hbl.size; simp; omega) (Ne.symm hne)]; assumption))
        ((refine step_append_lies _ (by rfl) _ _ _ (by rfl) w.heap.size 3 i0 (.int .i64 0) 1 8 und_intS hi hz0 hz1 hz2 rfl (by omega) (.slice O m oc) m _ (by rfl) ((hown.alloc _).drew)
            ⟨wr.heap.size, 0, none⟩ 2 2 [.int .i64 (lo : Int), .int .i64 (up : Int)] (by rfl) (by rfl) (World.news_of_block (cs := #[.int .i64 (lo : Int), .int .i64 (up : Int)]) (t := 3) (fr := (0, 0)) (heap_alloc_new wr _)) (by simp [Value.oneCell'])
            (by omega) (by unfold maxLen; omega) (by omega) (by simp; have := hbl.size; omega) (wr.heap.size + 1) (by simp) ?_; intro gg cap w1 hown1 hgrow hat hlt1))
      clear e1 e2
      go_wp2
      go_roundw
      case rel => exact ⟨k + 1, m + 2, some ⟨gg, 0, none⟩, cap, by omega, by simp, Lib.hid (by have := HM.out; omega), rfl, by rw [HT.out]; simpa [OwnH, encH] using hown1, (grown_below (hbl.trans (((bl_alloc wr _).drew).mono hbl.size)) hgrow (Nat.le_trans hbl.size (by simp)) (fun j e => (hown.lt j e).1))⟩
      case measure => simp [intOf]; omega
    · obtain rfl : k = xs.length := by omega
      rw [List.take_length] at hown
      have hN := hown.nh (halvesL_rgh hr)
      go_wp2_with (go_at_call 172; refine (htrim_calls hN.is).mono ?_; rintro e w' ⟨v', rfl, rfl, hI, hNt⟩)
      go_ret
      exact ⟨_, rfl, by rw [← trim_halves hr]; exact hNt _ hN, hbl⟩
end Go.Proofs.Ytnmmgegnioihmaa
namespace Go.Proofs.Ytnmmgegnioihmaa
open Go.RowKit

/-- append(v, x), a word -/
theorem append_w1 {w : World} {ops : Array Oper} {rest : List Oper} {o : Oper} {a : Act} {Q : Exit → Act → World → Prop} (X : Int) (x : Nat) (T : TypeId) (hgd : o.guard = none) (s xo : Operand)
    (ho : o.op = .call { callee := .builtin .append, args := #[s, xo], argTypes := #[39, 39] }) (base : Nat) (O : Option Addr) (k oc : Nat) (hs : a.eval s = .slice O k oc) (xs : List Nat) (hown : w.ownsRow base 101 1 (.slice O k oc) k (xs.map encW))
    (hx : a.eval xo = .slice (some ⟨w.heap.size, 0, none⟩) 1 1) (hX : X = (x : Int)) (hlen : k + 1 ≤ 17592186044416) (hbase : base ≤ w.heap.size)
    (h : ∀ O2 oc2 w', w'.ownsRow base 101 1 (.slice O2 (k + 1) oc2) (k + 1) ((xs ++ [x]).map encW) → (∀ w0 : World, w0.heap.size ≤ base → Below w0.heap.size w0 w → Below w0.heap.size w0 w') → wpList Try.prog ops Q rest (a.put o.dst (.slice O2 (k + 1) oc2)) w') :
    wpList Try.prog ops Q (o :: rest) a (w.alloc (.cells #[.int .u32 X] T)) := by
  subst hX
  obtain ⟨i0, hi, hz0, hz1, hz2⟩ := info_parts info_u32
  refine wpList_append_own _ hgd s xo 39 ho base 101 i0 (.int .u32 0) 1 4 und_words hi hz0 hz1 hz2 rfl (by decide) (.slice O k oc) k (xs.map encW) hs (hown.alloc _) ⟨w.heap.size, 0, none⟩ 1 1 [.int .u32 (x : Int)] hx rfl (cell_one_new _ _ _) (by simp [Value.oneCell']) (by unfold maxLen; omega) (by omega) (Nat.le_trans hbase (by simp)) ?_
  intro vo' w1 hown1 hg1 _
  obtain ⟨g', cap', rfl⟩ := ownsRow_succ hown1
  refine h _ _ _ (by simpa [encW] using hown1) fun w0 h0 hb0 => ?_
  exact grown_below (hb0.trans ((bl_alloc w _).mono hb0.size)) hg1 (Nat.le_trans h0 (Nat.le_trans hbase (by simp))) (fun j e => Nat.le_trans h0 (hown.lt j e).1)
theorem canZ_words (neg : Bool) (n : Nat) : (⟨neg && decide (0 < (wordsOf n).length), wordsOf n⟩ : Zr) = canZ (if neg then -(n : Int) else (n : Int)) := by
  have := made_eq neg (wordsOf n) (rng_wordsOf n)
  rwa [trim_words, val_wordsOf] at this
/-- a magnitude with its sign -/
def sgn (neg : Bool) (n : Nat) : Int := if neg then -(n : Int) else (n : Int)
set_option maxHeartbeats 2000000 in
theorem hof_calls (neg : Bool) (v : Value) (xs : List Nat) (w : World) (h : IsH w v xs) (hlen : xs.length ≤ 4398046511104) :
    Calls Try.prog 161 #[.bool neg, v] w (PostZ w (sgn neg (hval xs))) := by
  have h' := h.slice
  obtain ⟨A, c, rfl⟩ := h'
  have hr := h.1
  obtain ⟨n, hn⟩ : ∃ n, n = hval xs := ⟨_, rfl⟩
  have HT := Lib.hid (show trim xs = dig n by rw [trimh_eq hr, hn])
  have HL := Lib.hid (show (dig n).length ≤ 4398046511104 by rw [← HT.out]; exact Nat.le_trans (trim_len xs) hlen)
  rw [← hn]
  clear hn hlen
  go_enter Try.func161, Try.ntmps161
  go_wp2_with (go_at_call 172; refine (htrim_calls (h.below (bl_alloc _ _))).mono ?_; rintro e w' ⟨v', rfl, rfl, hI, hN⟩; rw [HT.out] at hI; have hI' := hI.slice; obtain ⟨B, d, rfl⟩ := hI')
  have hT0 : Two w.heap.size (w.alloc (.cells #[.bool false, .slice none 0 0] 41)) := Two.alloc _ _ _ rfl
  have hb0 : Below w.heap.size w (w.alloc (.cells #[.bool false, .slice none 0 0] 41)) := bl_alloc _ _
  have hz0 : (w.alloc (.cells #[.bool false, .slice none 0 0] 41)).heap.size = w.heap.size + 1 := by simp
  generalize World.alloc w _ = w0 at *
  clear h hN
  go_loopw [5, 6] (fun o i wr => ∃ (k j : Nat) (O : Option Addr) (oc : Nat), j ≤ (dig n).length + 1 ∧ Hid (j = 2 * k) ∧ i = .int .i64 j ∧ o = .slice O k oc ∧ wr.ownsRow (w.heap.size + 1) 101 1 (.slice O k oc) k ((pairW (dig n) k).map encW) ∧ Below w0.heap.size w0 wr) (fun _ i _ => (dig n).length + 2 - (intOf i).toNat)
  case atStart => exact ⟨0, 0, none, 0, Nat.zero_le _, Lib.hid rfl, rfl, rfl, World.ownsRow_nil _ _ _ _, Below.refl _ _⟩
  case round =>
    obtain ⟨k, j, O, oc, hj, HJ, rfl, rfl, hown, hbl⟩ := hrel
    by_cases hlt : j < (dig n).length
    · have hI1 := hI.below hbl
      have hA2 : ∀ W, IsH W (.slice B (dig n).length d) (dig n) → Calls Try.prog 173 #[.slice B (dig n).length d, .int .i64 ((j : Int) + 1)] W fun e w' => e = .returned (.int .i64 (((dig n).getD (j + 1) 0 : Nat) : Int)) ∧ W = w' := fun W h => hat_calls _ _ (j + 1) W h
      obtain ⟨x, hxe⟩ : ∃ x, x = (dig n).getD j 0 := ⟨_, rfl⟩
      obtain ⟨y, hye⟩ : ∃ y, y = (dig n).getD (j + 1) 0 := ⟨_, rfl⟩
      have hx := (rgh_dig n).getD j
      have hy := (rgh_dig n).getD (j + 1)
      have HP := Lib.hid (pairW_succ (dig n) k)
      rw [← HJ.out, ← hxe, ← hye] at HP
      rw [← hxe] at hx
      rw [← hye] at hy hA2
      have HXE := Lib.hid hxe
      clear hye hxe
      have e1 : IntKind.u32.wrap (x : Int) = (x : Int) := by simp only [IntKind.wrap]; simp [IntKind.bits, IntKind.signed]; omega
      have e2 : IntKind.u32.wrap (y : Int) = (y : Int) := by simp only [IntKind.wrap]; simp [IntKind.bits, IntKind.signed]; omega
      have e3 : IntKind.u32.wrap ((y : Int) * 65536) = (y : Int) * 65536 := by simp only [IntKind.wrap]; simp [IntKind.bits, IntKind.signed]; omega
      have e4 : IntKind.u32.wrap ((x : Int) + (y : Int) * 65536) = ((x + y * 65536 : Nat) : Int) := by simp only [IntKind.wrap]; simp [IntKind.bits, IntKind.signed]; omega
      have hk1 : k + 1 ≤ 17592186044416 := by have := HJ.out; have := HL.out; omega
      have hj2 : j + 2 ≤ 9223372036854775807 := by have := HL.out; omega
      have hs1 : w.heap.size + 1 ≤ wr.heap.size := by have := hbl.size; omega
      go_wp2_with (first
        | (go_at_call 173; (with_reducible refine (hA2 _ hI1).mono ?_); rintro e w' ⟨rfl, rfl⟩)
        | (go_at_call 173; (with_reducible refine (hat_calls _ (dig n) j _ hI1).mono ?_); rintro e w' ⟨rfl, rfl⟩; rw [← HXE.out])
        | (at_builtin; refine append_w1 _ (x + y * 65536) _ rfl _ _ rfl (w.heap.size + 1) O k oc rfl _ hown rfl (by simp) hk1 hs1 ?_; intro O2 oc2 w2 hown2 hb2))
      go_roundw
      case rel => exact ⟨k + 1, j + 2, O2, oc2, by omega, Lib.hid (by have := HJ.out; omega), by simp, rfl, by rw [HP.out]; exact hown2, hb2 w0 (by omega) hbl⟩
      case measure => simp [intOf]; omega
    · have hw := pairW_words (n := n) (k := k) (by have := HJ.out; omega) (by have := HJ.out; omega)
      rw [hw] at hown
      have hb1 := bl_trans hb0 hbl
      obtain ⟨⟨x0, c0⟩, ⟨x1, c1⟩, f0, f1⟩ := (hT0.below hbl).cells
      have hkl : (wordsOf n).length = k := by have := hown.1; simpa using this
      have HK := Lib.hid hkl
      obtain ⟨O', oc', e, hl, hN⟩ := NW.of_own (rng_wordsOf n) hown
      injection e with e1 e2 e3
      subst e1; subst e3
      have HZ := Lib.hid (canZ_words neg n)
      have hk0 := Int.natCast_nonneg k
      clear hw hkl hl e2
      have hNW : NW (w.heap.size + 1) wr (.slice O k oc) (wordsOf n) := ⟨rng_wordsOf n, O, oc, by rw [HK.out], hN⟩
      cases neg
      · go_wp2
        refine bodyPost_ret (v := .agg #[.bool false, .slice O k oc]) (by simp [results, Try.results161, go_sem, c0, c1]) rfl ?_
        refine ⟨_, _, HZ, rfl, ⟨_, rfl, ?_⟩, ?_⟩
        · exact ((hNW.setCell (p := ⟨w.heap.size, 0, none⟩) (Nat.lt_succ_self _) _).setCell (p := ⟨w.heap.size, 1, none⟩) (Nat.lt_succ_self _) _).mono (Nat.le_succ _)
        · exact (hb1.setCell (p := ⟨w.heap.size, 0, none⟩) (Nat.le_refl _) _).setCell (p := ⟨w.heap.size, 1, none⟩) (Nat.le_refl _) _
      · obtain ⟨b, hbe⟩ : ∃ b, b = decide (0 < k) := ⟨_, rfl⟩
        have HB := Lib.hid hbe
        go_wp2
        refine bodyPost_ret (v := .agg #[.bool (decide (0 < k)), .slice O k oc]) (by simp [results, Try.results161, go_sem, c0, c1]) rfl ?_
        refine ⟨_, _, HZ, rfl, ⟨_, by rw [HK.out]; rfl, ?_⟩, ?_⟩
        · exact ((hNW.setCell (p := ⟨w.heap.size, 0, none⟩) (Nat.lt_succ_self _) _).setCell (p := ⟨w.heap.size, 1, none⟩) (Nat.lt_succ_self _) _).mono (Nat.le_succ _)
        · exact (hb1.setCell (p := ⟨w.heap.size, 0, none⟩) (Nat.le_refl _) _).setCell (p := ⟨w.heap.size, 1, none⟩) (Nat.le_refl _) _
end Go.Proofs.Ytnmmgegnioihmaa
namespace Go.Proofs.Ytnmmgegnioihmaa
open Go.RowKit

/-- append([]int{x}, v...) -/
theorem prepend_h1 {w : World} {ops : Array Oper} {rest : List Oper} {o : Oper} {a : Act} {Q : Exit → Act → World → Prop} (X : Int) (x : Nat) (hgd : o.guard = none) (s xo : Operand)
    (ho : o.op = .call { callee := .builtin .append, args := #[s, xo], argTypes := #[22, 22] }) (hs : a.eval s = .slice (some ⟨w.heap.size, 0, none⟩) 1 1) (v : Value) (os : List Nat) (hv : IsH w v os)
    (hx : a.eval xo = v) (hX : X = (x : Int)) (hx16 : x < 65536) (hlen : os.length + 1 ≤ 17592186044416)
    (h : ∀ v' w', NH w.heap.size w' v' (x :: os) → (∀ w0 : World, Below w0.heap.size w0 w → Below w0.heap.size w0 w') → wpList Try.prog ops Q rest (a.put o.dst v') w') :
    wpList Try.prog ops Q (o :: rest) a (w.alloc (.cells #[.int .i64 X] 3)) := by
  subst hX
  obtain ⟨i0, hi, hz0, hz1, hz2⟩ := info_parts info_intS
  obtain ⟨hr, A, c, rfl, hrow⟩ := hv
  refine append_row (enc := encH) (fun _ => rfl) hgd s xo 22 ho w.heap.size 3 i0 (.int .i64 0) 8 und_intS hi hz0 hz1 hz2 rfl (.slice (some ⟨w.heap.size, 0, none⟩) 1 1) 1 ([x].map encH) hs (World.ownsRow_lit w #[.int .i64 (x : Int)] 1 (Nat.le_refl _) (by unfold maxLen; omega) (by simp)) A c os (hrow.below (bl_alloc _ _)) hx (by unfold maxLen; omega) (by omega) (by simp) ?_
  intro v' w' hown hg
  refine h v' w' (OwnH.nh (n := 1 + os.length) (by simpa [OwnH] using hown) (Rgh.cons hx16 hr)) fun w0 hb0 => ?_
  exact grown_below (hb0.trans ((bl_alloc w _).mono hb0.size)) hg (Nat.le_trans hb0.size (by simp)) (fun j e => by simp [Value.ownBlock] at e; have := hb0.size; omega)
theorem hmul_len {us vs : List Nat} {k n : Nat} (hu : Rgh us) (hv : Rgh vs) (h : n ≤ hval (us.drop k) * hval vs) : (dig n).length ≤ us.length - k + vs.length := by
  refine dig_len (Nat.lt_of_le_of_lt h ?_)
  have h1 := hval_lt (hu.drop k)
  have h2 := hval_lt hv
  rw [List.length_drop] at h1
  rw [Nat.pow_add]
  exact Nat.mul_lt_mul'' h1 h2
set_option maxHeartbeats 4000000 in
theorem hmul_calls (va vb : Value) (us vs : List Nat) (w : World) (ha : IsH w va us) (hb : IsH w vb vs) (hlen : us.length + vs.length ≤ 2199023255552) :
    Calls Try.prog 163 #[va, vb] w (PostH w (hval us * hval vs)) := by
  have ha' := ha
  have hb' := hb
  obtain ⟨ru, A, ca, rfl, hra⟩ := ha
  obtain ⟨rv, B, cb, rfl, _⟩ := hb
  by_cases hsm : us.length + vs.length ≤ 3
  · have hu3 : us.length ≤ 3 := by omega
    have hv3 : vs.length ≤ 3 := by omega
    have hp : hval us * hval vs < 281474976710656 := by
      have h1 := hval_lt ru
      have h2 := hval_lt rv
      have h3 : hval us * hval vs < 65536 ^ us.length * 65536 ^ vs.length := Nat.mul_lt_mul'' h1 h2
      rw [← Nat.pow_add] at h3
      have h4 : (65536 : Nat) ^ (us.length + vs.length) ≤ 65536 ^ 3 := Nat.pow_le_pow_right (by omega) hsm
      omega
    obtain ⟨p, hpe⟩ : ∃ p, p = hval us * hval vs := ⟨_, rfl⟩
    rw [← hpe] at hp ⊢
    have e1 : wrap64 (((hval us : Nat) : Int) * ((hval vs : Nat) : Int)) = (p : Int) := by
      rw [show ((hval us : Nat) : Int) * ((hval vs : Nat) : Int) = (p : Int) by rw [hpe]; simp]; unfold wrap64; omega
    have HU := Lib.hid hu3
    have HV := Lib.hid hv3
    clear hpe hu3 hv3
    go_enter Try.func163, Try.ntmps163
    go_wp2_with (first
      | (go_at_call 175; (with_reducible refine (hsmall_calls _ us _ ha' HU.out).mono ?_); rintro e w' ⟨rfl, rfl⟩)
      | (go_at_call 175; (with_reducible refine (hsmall_calls _ vs _ hb' HV.out).mono ?_); rintro e w' ⟨rfl, rfl⟩)
      | (go_at_call 174; refine (hback_calls p _ hp).mono ?_; rintro e w' ⟨v, rfl, hN, hbb⟩))
    go_ret
    exact ⟨_, rfl, hN, hbb⟩
  · have HL := Lib.hid hlen
    have hd : decide ((us.length : Int) + (vs.length : Int) ≤ 3) = false := by simp; omega
    have hu9 : us.length ≤ 2199023255552 := by omega
    have hv9 : vs.length ≤ 2199023255552 := by omega
    clear hlen hsm
    obtain ⟨V, hV⟩ : ∃ V, V = hval vs := ⟨_, rfl⟩
    have HV := Lib.hid hV
    rw [← hV]
    clear hV
    go_enter Try.func163, Try.ntmps163
    go_wp2
    go_loopw [5, 6] (fun o i wr => ∃ (k : Nat) (os : List Nat), k ≤ us.length ∧ i = .int .i64 ((k : Int) - 1) ∧ NH w.heap.size wr o os ∧ Hid (hval os = hval (us.drop k) * V) ∧ Hid (os.length ≤ us.length - k + vs.length) ∧ Below w.heap.size w wr) (fun _ i _ => (intOf i + 1).toNat)
    case atStart => exact ⟨us.length, [], Nat.le_refl _, rfl, NH.nil, Lib.hid (by simp [hval]), Lib.hid (by simp), Below.refl _ _⟩
    case round =>
      obtain ⟨k, os, hk, rfl, hN, HO, HOL, hbl⟩ := hrel
      cases k with
      | zero =>
        rw [List.drop_zero] at HO
        have hT : trim os = dig (hval us * V) := by rw [trimh_eq hN.1, HO.out]
        have HT := Lib.hid hT
        clear hT
        go_wp2_with (go_at_call 172; refine (htrim_calls hN.is).mono ?_; rintro e w' ⟨v', rfl, rfl, hI, hNt⟩)
        go_ret
        exact ⟨_, rfl, by rw [← HT.out]; exact hNt _ hN, hbl⟩
      | succ j =>
        have e0 : ((j + 1 : Nat) : Int) - 1 = (j : Int) := by omega
        rw [e0]
        have hj : j < us.length := by omega
        have hj1 : (j : Int) < (us.length : Int) := by omega
        obtain ⟨b, off, rfl, hc⟩ := rowh_at hra hj
        have hd1 := hval_drop us hj
        have hx := ru.getD j
        generalize us.getD j 0 = x at *
        have hlo : os.length + 1 ≤ 17592186044416 := by have := HOL.out; have := HL.out; omega
        obtain ⟨P, hP⟩ : ∃ P, P = hval (us.drop (j + 1)) := ⟨_, rfl⟩
        rw [← hP] at hd1 HO
        have HD := Lib.hid hd1
        have HP := Lib.hid hP
        have hoi := hN.is
        have hs := hoi.slice
        obtain ⟨O, oc, rfl⟩ := hs
        clear hd1 hP e0
        go_wp2_with (at_builtin; refine prepend_h1 0 0 rfl _ _ rfl rfl _ os hoi rfl rfl (by omega) hlo ?_; intro v2 w2 hN2 hb2)
        have hbl2 := hb2 w hbl
        have hN2' := hN2.mono hbl.size
        have HO2 : Hid (hval (0 :: os) = 65536 * (P * V) + min 0 x * V) := Lib.hid (by rw [hval_cons, HO.out]; simp)
        have HOL2 : Hid ((0 :: os).length ≤ us.length - j + vs.length) := Lib.hid (by have := HOL.out; simp; omega)
        have hc2 := bl_cell hbl2 hc
        clear hN2 hb2 hoi hN HO HOL hlo
        go_loopw [5, 7] (fun o i wr => ∃ (m : Nat) (os : List Nat), m ≤ x + 1024 ∧ i = .int .i64 (m : Int) ∧ NH w.heap.size wr o os ∧ Hid (hval os = 65536 * (P * V) + min m x * V) ∧ Hid (os.length ≤ us.length - j + vs.length) ∧ Below w.heap.size w wr) (fun _ i _ => x + 1024 - (intOf i).toNat)
        case atStart => exact ⟨0, 0 :: os, Nat.zero_le _, rfl, hN2', HO2.out, HOL2.out, hbl2⟩
        case round =>
          obtain ⟨m, oi, hm, rfl, hNi, HOi, HOLi, hbi⟩ := hrel
          have hci := bl_cell hbi hc
          clear hc2
          by_cases hlt : m < x
          · obtain ⟨mm, hmm⟩ : ∃ mm, mm = min 1024 (x - m) := ⟨_, rfl⟩
            have h9 : ∀ ts t W, (Builtin.min_ ts t #[.int .i64 1024, .int .i64 ((x : Int) - (m : Int))]).run Try.prog W = .ok (.int .i64 (mm : Int)) W := fun ts t W => by
              rw [run_min_int2, hmm]; congr 2; split <;> omega
            have hmm1 : mm ≤ 65536 := by omega
            have HMM := Lib.hid (show min (m + 1024) x = min m x + mm by omega)
            clear hmm
            have hl1 : oi.length ≤ 4398046511104 := by have := HOLi.out; have := HL.out; omega
            have hdl : (dig (V * mm)).length ≤ 4398046511104 := by
              have h1 : (dig (V * mm)).length ≤ vs.length + 2 := dig_len (by
                have h2 := hval_lt rv
                rw [← HV.out] at h2
                have h3 : V * mm < 65536 ^ vs.length * 65537 := Nat.mul_lt_mul'' h2 (by omega)
                have h4 : 65536 ^ vs.length * 65537 ≤ 65536 ^ vs.length * 65536 ^ 2 := Nat.mul_le_mul_left _ (by decide)
                rw [← Nat.pow_add] at h4
                omega)
              omega
            have HVV : Hid (hval vs * mm = V * mm) := Lib.hid (by rw [HV.out])
            go_wp2_with (first
              | (go_at_call 176; refine (htimes_calls _ vs mm _ (hb'.below hbi) hmm1 (by omega)).mono ?_; rintro e w3 ⟨v3, rfl, hN3, hb3⟩; rw [HVV.out] at hN3)
              | (go_at_call 164; refine (hadd_calls _ _ oi (dig (V * mm)) _ (hNi.is.below hb3) hN3.is ⟨hl1, hdl⟩).mono ?_; rintro e w4 ⟨v4, rfl, hN4, hb4⟩; rw [hval_dig] at hN4))
            have hv : hval oi + V * mm = 65536 * (P * V) + min (m + 1024) x * V := by rw [HOi.out, HMM.out, Nat.add_mul, Nat.mul_comm V mm, Nat.add_assoc]
            rw [hv] at hN4
            go_roundw
            case rel =>
              refine ⟨m + 1024, dig (65536 * (P * V) + min (m + 1024) x * V), by omega, by simp, hN4.mono (Nat.le_trans hbi.size hb3.size), Lib.hid (hval_dig _), Lib.hid ?_, bl_trans hbi (bl_trans hb3 hb4)⟩
              refine hmul_len ru rv (k := j) ?_
              rw [HD.out, ← HV.out, Nat.add_mul, Nat.mul_assoc, Nat.add_comm]
              exact Nat.add_le_add_right (Nat.mul_le_mul_right _ (Nat.min_le_right _ _)) _
            case measure => simp [intOf]; omega
          · have HE : Hid (hval oi = hval (us.drop j) * V) := Lib.hid (by rw [HOi.out, HD.out, Nat.min_eq_right (by omega), Nat.add_mul, Nat.mul_assoc]; omega)
            go_wp2
            go_roundw
            case rel => exact ⟨j, oi, by omega, by simp, hNi, HE.out, HOLi.out, hbi⟩
            case measure => simp [intOf]
end Go.Proofs.Ytnmmgegnioihmaa
namespace Go.Proofs.Ytnmmgegnioihmaa
open Go.RowKit

/-- the digits from the m-th on are done: the quotient's digits qs, the remainder r -/
structure HDn (us : List Nat) (n m : Nat) (qs : List Nat) (r : Nat) : Prop where
  len : qs.length = us.length
  rgh : Rgh qs
  lt : r < n
  eq : hval (us.drop m) = hval (qs.drop m) * n + r
theorem HDn.start (us : List Nat) {n : Nat} (hn : 0 < n) : HDn us n us.length (List.replicate us.length 0) 0 := ⟨by simp, Rgh.replicate _, hn, by simp [hval]⟩
theorem HDn.digit {us qs : List Nat} {n m r u : Nat} (h : HDn us n m qs r) (hu : u < 65536) : (r * 65536 + u) / n < 65536 ∧ r * 65536 + u < n * 65536 := by
  have hr := h.lt
  have : (r + 1) * 65536 ≤ n * 65536 := Nat.mul_le_mul_right _ hr
  refine ⟨?_, by omega⟩
  rw [Nat.div_lt_iff_lt_mul (by omega), Nat.mul_comm 65536 n]
  omega
theorem HDn.step {us qs : List Nat} {n j r : Nat} (h : HDn us n (j + 1) qs r) (hu : Rgh us) (hj : j < us.length) : HDn us n j (qs.set j ((r * 65536 + us.getD j 0) / n)) ((r * 65536 + us.getD j 0) % n) := by
  have hq := (h.digit (hu.getD j)).1
  refine ⟨by simp [h.len], h.rgh.set _ hq, Nat.mod_lt _ (by have := h.lt; omega), ?_⟩
  rw [hval_drop us hj, hval_drop (qs.set _ _) (show j < (qs.set _ _).length by rw [List.length_set, h.len]; exact hj), getD_set_eq _ _ (by rw [h.len]; exact hj), drop_set_ge _ _ (by omega)]
  refine small_ring h.eq ?_
  rw [Nat.mul_comm (_ / n) n]
  exact (Nat.div_add_mod _ n).symm
theorem HDn.final {us qs : List Nat} {n r : Nat} (h : HDn us n 0 qs r) : hval us = hval qs * n + r := by
  have := h.eq
  rwa [List.drop_zero, List.drop_zero] at this
theorem HDn.quot {us qs : List Nat} {n r : Nat} (h : HDn us n 0 qs r) : hval qs = hval us / n := by
  rw [h.final, Nat.mul_comm, Nat.mul_add_div (by have := h.lt; omega), Nat.div_eq_of_lt h.lt, Nat.add_zero]
theorem HDn.rem {us qs : List Nat} {n r : Nat} (h : HDn us n 0 qs r) : r = hval us % n := by
  rw [h.final, Nat.mul_comm, Nat.mul_add_mod, Nat.mod_eq_of_lt h.lt]
/-- the digits of a row of the call's own, at g -/
def OwnI (w0 w : World) (g n : Nat) (os : List Nat) : Prop := w.ownsRow w0.heap.size 3 1 (.slice (some ⟨g, 0, none⟩) n n) n (os.map encH) ∧ Below w0.heap.size w0 w ∧ w0.heap.size ≤ g
theorem OwnI.cell {w0 w : World} {g n : Nat} {os : List Nat} (h : OwnI w0 w g n os) {j : Nat} (hj : j < os.length) : w.cell? ⟨g, j, none⟩ = some (.int .i64 ((os.getD j 0 : Nat) : Int)) := by
  have hl : os.length = n := by have := h.1.1; simpa using this
  rw [h.1.cellAt j (by omega), List.getElem?_map, List.getElem?_eq_getElem hj, List.getD_eq_getElem?_getD, List.getElem?_eq_getElem hj]
  rfl
theorem OwnI.frozen {w0 w : World} {g n : Nat} {os : List Nat} (h : OwnI w0 w g n os) (j : Nat) : w.frozen? ⟨g, j, none⟩ = false := h.1.frozenAt j
theorem OwnI.put {w0 w : World} {g n : Nat} {os : List Nat} (h : OwnI w0 w g n os) (j s : Nat) : OwnI w0 (w.setCell ⟨g, j, none⟩ (.int .i64 (s : Int))) g n (os.set j s) := by
  refine ⟨?_, h.2.1.setCell h.2.2 _, h.2.2⟩
  have h1 := (h.1.stored j (.int .i64 (s : Int))).1
  have e : (os.map encH).set j (.int .i64 (s : Int)) = (os.set j s).map encH := by rw [List.map_set]; simp [encH]
  rwa [e] at h1
theorem OwnI.drew {w0 w : World} {g n : Nat} {os : List Nat} (h : OwnI w0 w g n os) : OwnI w0 w.drew g n os := ⟨h.1, h.2.1.drew, h.2.2⟩
theorem OwnI.nh {w0 w : World} {g n : Nat} {os : List Nat} (h : OwnI w0 w g n os) (hr : Rgh os) : NH w0.heap.size w (.slice (some ⟨g, 0, none⟩) n n) os := by
  obtain ⟨A, c, e, hl, hN⟩ := NRow.of_own h.1
  exact ⟨hr, A, c, e, hN⟩
theorem OwnI.below {w0 w w' : World} {g n : Nat} {os : List Nat} (h : OwnI w0 w g n os) (hb : Below w.heap.size w w') : OwnI w0 w' g n os := by
  refine ⟨h.1.kept (row := none) ⟨hb.os, hb.tape, hb.output, hb.size, fun k hk _ => hb.block k hk⟩ (.inr (by simp [Value.ownBlock])), ?_, h.2.2⟩
  exact h.2.1.trans (hb.mono h.2.1.size)
theorem NH.put {n0 : Nat} {w : World} {v : Value} {xs : List Nat} (h : NH n0 w v xs) {p : Addr} (hp : p.block < n0) (u : Value) : NH n0 (w.setCell p u) v xs := by obtain ⟨g, A, c, e, h⟩ := h; exact ⟨g, A, c, e, h.setCell hp u⟩
theorem madeCells_int (n : Nat) : (madeCells (Value.int .i64 0).cells (n * 1)).toList = (List.replicate n 0).map encH := by
  rw [Nat.mul_one]
  apply List.ext_getElem
  · simp [madeCells]
  · intro i h1 h2
    simp [madeCells, Value.cells, encH, Nat.mod_one]
theorem lit1_H (w : World) (T : TypeId) {x : Nat} (hx : x < 65536) : NH w.heap.size (w.alloc (.cells #[.int .i64 (x : Int)] T)) (.slice (some ⟨w.heap.size, 0, none⟩) 1 1) [x] :=
  ⟨Rgh.cons hx Rgh.nil, _, _, rfl, NRow.new (heap_alloc_new w _) (Nat.le_refl _) (by unfold maxLen; omega) (by simp) (fun j y hj => by cases j with
    | zero => simp at hj; subst hj; rfl
    | succ j => simp at hj)⟩
def PostDH (w : World) (q r : Nat) (e : Ending) (w' : World) : Prop := ∃ v1 v2, e = .returned (.tuple #[v1, v2]) ∧ NH w.heap.size w' v1 (dig q) ∧ NH w.heap.size w' v2 (dig r) ∧ Below w.heap.size w w'
set_option maxHeartbeats 2000000 in
theorem hdiv_small (va vb : Value) (us vs : List Nat) (w : World) (ha : IsH w va us) (hb : IsH w vb vs) (hV : 0 < hval vs) (hu : us.length ≤ 3) (hv : vs.length ≤ 3) : Calls Try.prog 171 #[va, vb] w (PostDH w (hval us / hval vs) (hval us % hval vs)) := by
  have ha' := ha
  have hb' := hb
  obtain ⟨ru, A, ca, rfl, _⟩ := ha
  obtain ⟨rv, B, cb, rfl, _⟩ := hb
  have hp : hval us < 281474976710656 := by
    have h1 := hval_lt ru
    have h4 : (65536 : Nat) ^ us.length ≤ 65536 ^ 3 := Nat.pow_le_pow_right (by omega) hu
    omega
  have HU := Lib.hid hu
  have HV := Lib.hid hv
  have hu' : (us.length : Int) ≤ 3 := by omega
  have hv' : (vs.length : Int) ≤ 3 := by omega
  clear hu hv
  obtain ⟨U, hUe⟩ : ∃ U, U = hval us := ⟨_, rfl⟩
  obtain ⟨V, hVe⟩ : ∃ V, V = hval vs := ⟨_, rfl⟩
  have EU := Lib.hid hUe
  have EV := Lib.hid hVe
  rw [← hUe, ← hVe]
  rw [← hVe] at hV
  rw [← hUe] at hp
  clear hUe hVe
  have hq : U / V < 281474976710656 := Nat.lt_of_le_of_lt (Nat.div_le_self _ _) hp
  have hr : U % V < 281474976710656 := Nat.lt_of_le_of_lt (Nat.mod_le _ _) hp
  have e1 : (U : Int) / (V : Int) = ((U / V : Nat) : Int) := by simp
  have e2 : (U : Int) % (V : Int) = ((U % V : Nat) : Int) := by simp
  have E1 := Lib.hid e1
  have E2 := Lib.hid e2
  generalize U / V = q at *
  have e3 : wrap64 (q : Int) = (q : Int) := by unfold wrap64; omega
  generalize U % V = r at *
  go_enter Try.func171, Try.ntmps171
  go_wp2_with (first
    | (go_at_call 175; (with_reducible refine (hsmall_calls _ us _ (ha'.below (by first | exact Below.refl _ _ | exact hbb)) HU.out).mono ?_); rintro e w' ⟨rfl, rfl⟩; rw [← EU.out])
    | (go_at_call 175; (with_reducible refine (hsmall_calls _ vs _ (hb'.below (by first | exact Below.refl _ _ | exact hbb)) HV.out).mono ?_); rintro e w' ⟨rfl, rfl⟩; rw [← EV.out])
    | (go_at_call 174; have _h := hbb; refine (hback_calls r _ hr).mono ?_; rintro e w2 ⟨v2, rfl, hN2, hb2⟩)
    | (go_at_call 174; refine (hback_calls q _ hq).mono ?_; rintro e w1 ⟨v1, rfl, hN1, hbb⟩))
  go_ret2
  exact ⟨_, _, rfl, hN1.below hb2, hN2.mono hbb.size, bl_trans hbb hb2⟩
set_option maxHeartbeats 2000000 in
theorem hdiv_one (va vb : Value) (us : List Nat) (d : Nat) (w : World) (ha : IsH w va us) (hb : IsH w vb [d]) (h0 : 0 < d) (hu : 3 < us.length) (hlen : us.length ≤ 2199023255552) : Calls Try.prog 171 #[va, vb] w (PostDH w (hval us / d) (hval us % d)) := by
  obtain ⟨ru, A, ca, rfl, hra⟩ := ha
  obtain ⟨rv, B, cb, rfl, hrb⟩ := hb
  have hd : d < 65536 := rv d (by simp)
  obtain ⟨bb, ob, rfl, hcb⟩ := rowh_at hrb (k := 0) (by simp)
  rw [show [d].getD 0 0 = d from rfl, Nat.add_zero] at hcb
  have HL := Lib.hid hlen
  have hmx : us.length ≤ 9223372036854775807 := by omega
  have hu3 : decide ((us.length : Int) ≤ 3) = false := by simp; omega
  clear hlen hu
  obtain ⟨i0, hi, hz0, hz1, hz2⟩ := info_parts info_intS
  go_enter Try.func171, Try.ntmps171
  go_wp2_with (at_make; refine wpList_make_full _ rfl _ _ 22 rfl w.heap.size 3 i0 (.int .i64 0) 1 und_intS hi hz0 hz1 .i64 .i64 _ _ us.length rfl rfl rfl rfl (by rw [hz2]; have := HL.out; omega) (by unfold maxLen; omega) (Nat.le_refl _) ?_; intro w1 hown hg)
  rw [madeCells_int] at hown
  have hO : OwnI w w1 w.heap.size us.length (List.replicate us.length 0) := ⟨hown, (Below.refl _ _).grown hg (Nat.le_refl _) (fun k e => by cases e), Nat.le_refl _⟩
  clear hown hg hi hz0 hz1 hz2 i0
  go_loopw [7, 8] (fun r i wr => ∃ m rr : Nat, m ≤ us.length ∧ i = .int .i64 ((m : Int) - 1) ∧ r = .int .i64 rr ∧ ∃ qs, Hid (HDn us d m qs rr) ∧ OwnI w wr w.heap.size us.length qs) (fun _ i _ => (intOf i + 1).toNat)
  case atStart => exact ⟨us.length, 0, Nat.le_refl _, rfl, rfl, _, HDn.start us h0, hO⟩
  case round =>
    obtain ⟨m, rr, hm, rfl, rfl, qs, HS, hqs⟩ := hrel
    clear hO
    cases m with
    | zero =>
      have hq : trim qs = dig (hval us / d) := by rw [trimh_eq HS.out.rgh, HS.out.quot]
      have hr : rr = hval us % d := HS.out.rem
      have hrd : rr < 65536 := by have := HS.out.lt; omega
      have HQ := Lib.hid hq
      have HR := Lib.hid hr
      have hNq := hqs.nh HS.out.rgh
      clear hq hr
      go_wp2_with (first
        | (go_at_call 172; (with_reducible refine (htrim_calls (lit1_H _ _ hrd).is).mono ?_); rintro e w3 ⟨v3, rfl, rfl, hI3, hN3⟩)
        | (go_at_call 172; (with_reducible refine (htrim_calls hNq.is).mono ?_); rintro e w2 ⟨v2, rfl, rfl, hI2, hN2⟩))
      go_ret2
      refine ⟨_, _, rfl, ?_, ?_, bl_trans hqs.2.1 (bl_alloc _ _)⟩
      · rw [← HQ.out]; exact (hN2 _ hNq).below (bl_alloc _ _)
      · have := (hN3 _ (lit1_H _ _ hrd)).mono hqs.2.1.size
        have h7 : dig (hval [rr]) = dig (hval us % d) := by rw [hval_single, HR.out]
        rw [trimh_eq (Rgh.cons hrd Rgh.nil), h7] at this
        exact this
    | succ j =>
      have e0 : ((j + 1 : Nat) : Int) - 1 = (j : Int) := by omega
      rw [e0]
      have hj1 : j < us.length := by omega
      have hj2 : (j : Int) < (us.length : Int) := by omega
      obtain ⟨ba, oa, rfl, hca⟩ := rowh_at (hra.below hqs.2.1) hj1
      have hcb1 := bl_cell hqs.2.1 hcb
      have hst := HS.out.step ru hj1
      have hu := ru.getD j
      have hcell := hqs.cell (j := j) (by rw [HS.out.len]; exact hj1)
      have hfr := hqs.frozen j
      have hrr := HS.out.lt
      generalize us.getD j 0 = u at *
      generalize qs.getD j 0 = o at *
      have HST := Lib.hid hst
      have hs2 : rr * 65536 + u < 4294967296 := by omega
      have e1 : (rr : Int) * 65536 + (u : Int) = ((rr * 65536 + u : Nat) : Int) := by simp
      clear hst e0
      generalize rr * 65536 + u = s at *
      have e2 : (s : Int) / (d : Int) = ((s / d : Nat) : Int) := by simp
      have e3 : (s : Int) % (d : Int) = ((s % d : Nat) : Int) := by simp
      have hq1 : s / d < 4294967296 := Nat.lt_of_le_of_lt (Nat.div_le_self _ _) hs2
      have hq2 : s % d < 65536 := by have := Nat.mod_lt s h0; omega
      generalize s / d = q at *
      have e4 : wrap64 (q : Int) = (q : Int) := by unfold wrap64; omega
      generalize s % d = r at *
      go_wp2
      go_region
      all_goals go_wp2
      go_roundw
      case rel => exact ⟨j, r, by omega, rfl, by rw [e3], _, HST.out, (hqs.put j q).drew⟩
      case measure => simp [intOf]
end Go.Proofs.Ytnmmgegnioihmaa
namespace Go.Proofs.Ytnmmgegnioihmaa
open Go.RowKit

set_option maxRecDepth 100000 in
set_option maxHeartbeats 4000000 in
theorem hdiv_long (va vb : Value) (us vs : List Nat) (w : World) (ha : IsH w va us) (hb : IsH w vb vs) (tv : trim vs = vs) (hv0 : vs ≠ []) (h1 : vs.length ≠ 1) (h3 : 3 < us.length ∨ 3 < vs.length) (hlen : us.length + vs.length ≤ 2199023255552) :
    Calls Try.prog 171 #[va, vb] w (PostDH w (hval us / hval vs) (hval us % hval vs)) := by
  have hbW := hb
  obtain ⟨ru, A, ca, rfl, hra⟩ := ha
  obtain ⟨rv, B, cb, rfl, hrb⟩ := hb
  have hmx : us.length ≤ 9223372036854775807 := by omega
  have hb1 : (((vs.length : Nat) : Int) == 1) = false := by rw [beq_eq_false_iff_ne]; omega
  have hV : 0 < hval vs := by
    rcases Nat.eq_zero_or_pos (hval vs) with h | h
    · exact absurd (by rw [← tv, trimh_eq rv, h, dig_zero]) hv0
    · exact h
  have HL := Lib.hid hlen
  have HT := Lib.hid tv
  have hvl : vs.length ≤ 2199023255552 := by omega
  clear hlen h1 hv0 tv
  obtain ⟨V, hVe⟩ : ∃ V, V = hval vs := ⟨_, rfl⟩
  have HV := Lib.hid hVe
  rw [← hVe] at hV ⊢
  clear hVe
  have hcase : (decide ((us.length : Int) ≤ 3) = false) ∨ (decide ((us.length : Int) ≤ 3) = true ∧ decide ((vs.length : Int) ≤ 3) = false) := by simp; omega
  obtain ⟨i0, hi, hz0, hz1, hz2⟩ := info_parts info_intS
  rcases hcase with hcase | ⟨hcase, hcase2⟩
  all_goals
    go_enter Try.func171, Try.ntmps171
    go_wp2_with (at_make; refine wpList_make_full _ rfl _ _ 22 rfl w.heap.size 3 i0 (.int .i64 0) 1 und_intS hi hz0 hz1 .i64 .i64 _ _ us.length rfl rfl rfl rfl (by rw [hz2]; have := HL.out; omega) (by unfold maxLen; omega) (Nat.le_refl _) ?_; intro w1 hown hg)
    rw [madeCells_int] at hown
    have hO : OwnI w w1 w.heap.size us.length (List.replicate us.length 0) := ⟨hown, (Below.refl _ _).grown hg (Nat.le_refl _) (fun k e => by cases e), Nat.le_refl _⟩
    clear hown hg
    go_loopw [9, 10] (fun r i wr => ∃ m R : Nat, m ≤ us.length ∧ i = .int .i64 ((m : Int) - 1) ∧ ∃ qs, Hid (HDn us V m qs R) ∧ OwnI w wr w.heap.size us.length qs ∧ NH (w.heap.size + 1) wr r (dig R)) (fun _ i _ => (intOf i + 1).toNat)
    case atStart => exact ⟨us.length, 0, Nat.le_refl _, rfl, _, HDn.start us hV, hO, by rw [dig_zero]; exact NH.nil⟩
    case round =>
      obtain ⟨m, R, hm, rfl, qs, HS, hqs, hNr⟩ := hrel
      clear hO
      cases m with
      | zero =>
        have hq : trim qs = dig (hval us / V) := by rw [trimh_eq HS.out.rgh, HS.out.quot]
        have hr2 : dig R = dig (hval us % V) := by rw [HS.out.rem]
        have HQ := Lib.hid hq
        have HR := Lib.hid hr2
        have hNq := hqs.nh HS.out.rgh
        clear hq hr2
        go_wp2_with (go_at_call 172; (with_reducible refine (htrim_calls hNq.is).mono ?_); rintro e w2 ⟨v2, rfl, rfl, hI2, hN2⟩)
        go_ret2
        exact ⟨_, _, rfl, by rw [← HQ.out]; exact hN2 _ hNq, by rw [← HR.out]; exact hNr.mono (Nat.le_succ _), hqs.2.1⟩
      | succ j =>
        have e0 : ((j + 1 : Nat) : Int) - 1 = (j : Int) := by omega
        rw [e0]
        have hj1 : j < us.length := by omega
        have hj2 : (j : Int) < (us.length : Int) := by omega
        obtain ⟨ba, oa, rfl, hca⟩ := rowh_at (hra.below hqs.2.1) hj1
        have hst := HS.out.step ru hj1
        have hu := ru.getD j
        have hdig := HS.out.digit hu
        generalize us.getD j 0 = u at *
        have hRl : (dig R).length ≤ vs.length := by
          have h1 : R ≤ hval vs := by rw [← HV.out]; exact Nat.le_of_lt HS.out.lt
          have h2 := dig_len_mono h1
          rw [← trimh_eq rv] at h2
          exact Nat.le_trans h2 (trim_len vs)
        have hlo : (dig R).length + 1 ≤ 17592186044416 := by omega
        have htr : trim (u :: dig R) = dig (R * 65536 + u) := by
          rw [trimh_eq (Rgh.cons hu (rgh_dig R)), hval_cons, hval_dig]; congr 1; omega
        have HTR := Lib.hid htr
        have HST := Lib.hid hst
        have HD := Lib.hid hdig
        have hTl : (dig (R * 65536 + u)).length ≤ vs.length + 1 := by
          rw [← htr]; exact Nat.le_trans (trim_len _) (by simp; omega)
        have hgs : w.heap.size + 1 ≤ wr.heap.size := (hqs.1.lt _ rfl).2
        have hoi := hNr.is
        clear hst htr hdig e0
        go_wp2_with (at_builtin; refine prepend_h1 (u : Int) u rfl _ _ rfl rfl _ (dig R) hoi rfl rfl hu hlo ?_; intro v2 w2 hN2 hb2)
        refine (htrim_calls hN2.is).mono ?_
        rintro e w' ⟨v', rfl, rfl, hI', hN'⟩
        have hb20 := hb2 wr (Below.refl _ _)
        have hO2 := hqs.below hb20
        have hNT := hN' _ (hN2.mono hgs)
        rw [HTR.out] at hNT
        clear hN2 hI' hN' hqs hb2 hoi hNr
        have hb2 : Below w.heap.size w w2 := hO2.2.1
        generalize R * 65536 + u = T at *
        have hTI := hNT.is
        have hsl := hTI.slice
        obtain ⟨AT, cT, rfl⟩ := hsl
        have hh0 : Half T V 0 65536 := ⟨by simp, by have := HD.out.2; omega⟩
        have hh1 : (dig T).length < vs.length → Half T V 0 1 := fun h => ⟨by simp, by
          have := len_lt_hval (rgh_dig T) HT.out h
          rw [hval_dig, ← HV.out] at this
          simpa using this⟩
        have HH0 := Lib.hid hh0
        have HH1 := Lib.hid hh1
        clear hh0 hh1
        have hcs : ∀ mid : Nat, (hcmp (V * mid) T ≤ 0 ↔ V * mid ≤ T) := fun mid => by
          rcases Nat.lt_trichotomy (V * mid) T with h | h | h
          · rw [hcmp_lt h]; exact ⟨fun _ => Nat.le_of_lt h, fun _ => by omega⟩
          · rw [hcmp_eq h]; exact ⟨fun _ => Nat.le_of_eq h, fun _ => by omega⟩
          · rw [hcmp_gt h]; exact ⟨fun h' => by omega, fun h' => by omega⟩
        have HCS := Lib.hid hcs
        clear hcs
        have hlm : ∀ mid : Nat, mid < 65536 → (dig (V * mid)).length ≤ vs.length + 1 := fun mid hm => dig_len (by
          have h2 := hval_lt rv
          rw [← HV.out] at h2
          rw [Nat.pow_succ]
          exact Nat.mul_lt_mul'' h2 hm)
        have HLM := Lib.hid hlm
        clear hlm
        obtain ⟨LT, hLT⟩ : ∃ LT, LT = (dig T).length := ⟨_, rfl⟩
        have HLT := Lib.hid hLT
        rw [← hLT] at hTl hNT hTI ⊢
        have hT9 : LT ≤ 9223372036854775807 := by omega
        have hV9 : vs.length ≤ 9223372036854775807 := by omega
        clear hLT
        have hTcase : ((LT : Int) < (vs.length : Int) ∧ Hid ((dig T).length < vs.length)) ∨ (¬ ((LT : Int) < (vs.length : Int)) ∧ decide (LT < vs.length) = false) := by
          by_cases h : LT < vs.length
          · exact .inl ⟨by omega, Lib.hid (by rw [← HLT.out]; exact h)⟩
          · exact .inr ⟨by omega, by simpa using h⟩
        rcases hTcase with ⟨hTl2, hTc⟩ | ⟨hTn, hTd⟩
        all_goals
          go_wp2
          obtain ⟨wo, rfl⟩ : ∃ wo : World, wo = w2 := ⟨_, rfl⟩
          go_loopw [11, 12] (fun lo hi wi => ∃ l h : Nat, lo = .int .i64 l ∧ hi = .int .i64 h ∧ Hid (Half T V l h) ∧ h ≤ 65536 ∧ Below wo.heap.size wo wi) (fun lo hi _ => (intOf hi).toNat - (intOf lo).toNat)
          case atStart => first | exact ⟨0, 1, rfl, rfl, HH1.out hTc.out, by omega, Below.refl _ _⟩ | exact ⟨0, 65536, rfl, rfl, HH0.out, by omega, Below.refl _ _⟩
          case round =>
            obtain ⟨lo, hi', rfl, rfl, HH, hhi, hbi⟩ := hrel
            have hle := HH.out.le
            by_cases hgt : 1 < hi' - lo
            · obtain ⟨mid, hmid⟩ : ∃ mid, mid = (lo + hi') / 2 := ⟨_, rfl⟩
              have hm1 : lo < mid ∧ mid < hi' := by omega
              have e3 : ((lo : Int) + (hi' : Int)) / 2 = (mid : Int) := by omega
              have hg2 : (1 : Int) < (hi' : Int) - (lo : Int) := by omega
              have hml := HLM.out mid (by omega)
              have hmid2 : mid ≤ 65536 := by omega
              have HBw := (hb2.trans (hbi.mono hb2.size))
              have hlen2 : (dig (V * mid)).length ≤ 35184372088832 ∧ (dig T).length ≤ 35184372088832 := by rw [← HLT.out]; omega
              have HC := HCS.out mid
              have HC2 := Lib.hid HC
              have HV2 : Hid (hval vs * mid = V * mid) := Lib.hid (by rw [HV.out])
              clear hmid HC hgt
              by_cases hcm : hcmp (V * mid) T ≤ 0
              all_goals
                go_wp2_with (first
                  | (go_at_call 176; (with_reducible refine (htimes_calls _ vs mid _ (hbW.below HBw) hmid2 (by omega)).mono ?_); rintro e w3 ⟨v3, rfl, hN3, hb3⟩; rw [HV2.out] at hN3)
                  | (go_at_call 165; (with_reducible refine (hcmp_calls _ _ (dig (V * mid)) (dig T) _ hN3.is (hTI.below (bl_trans hbi hb3)) hlen2).mono ?_); rintro e w4 ⟨rfl, rfl⟩; rw [hval_dig, hval_dig]))
                go_roundw
              case rel => exact ⟨mid, hi', rfl, rfl, ⟨HC2.out.1 hcm, HH.out.high⟩, hhi, bl_trans hbi hb3⟩
              case measure => simp [intOf]; omega
              case rel => exact ⟨lo, mid, rfl, rfl, ⟨HH.out.low, Nat.lt_of_not_le fun h => absurd (HC2.out.2 h) (by omega)⟩, by omega, bl_trans hbi hb3⟩
              case measure => simp [intOf]; omega
            · have hlo : lo = T / V := HH.out.final (by omega)
              have hlor : lo < 65536 := by omega
              have hg2 : (hi' : Int) - (lo : Int) ≤ 1 := by omega
              have hqj : j < qs.length := by rw [HS.out.len]; exact hj1
              have hml := HLM.out lo (by omega)
              have hll : V * lo ≤ T := HH.out.low
              have hmm := dig_len_mono hll
              have hTr : T - V * lo = T % V := by have := Nat.div_add_mod T V; rw [hlo]; omega
              have HBw := (hb2.trans (hbi.mono hb2.size))
              have HLO := Lib.hid hlo
              have HTR2 := Lib.hid hTr
              have HLL := Lib.hid hll
              have hmid2 : lo ≤ 65536 := by omega
              have HV2 : Hid (hval vs * lo = V * lo) := Lib.hid (by rw [HV.out])
              have hle2 : Hid (hval (dig (V * lo)) ≤ hval (dig T)) := Lib.hid (by rw [hval_dig, hval_dig]; exact hll)
              clear hlo hTr hll hle
              go_wp2_with (first
                | (go_at_call 176; (with_reducible refine (htimes_calls _ vs lo _ (hbW.below HBw) hmid2 (by omega)).mono ?_); rintro e w3 ⟨v3, rfl, hN3, hb3⟩; rw [HV2.out] at hN3)
                | (go_at_call 166; (with_reducible refine (hsub_calls _ _ (dig T) (dig (V * lo)) _ (hTI.below (bl_trans hbi hb3)) hN3.is (by rw [← HLT.out]; omega) hmm hle2.out).mono ?_); rintro e w4 ⟨v4, rfl, hN4, hb4⟩; rw [hval_dig, hval_dig, HTR2.out] at hN4; have hO4 := hO2.below (bl_trans hbi (bl_trans hb3 hb4)); have hcell := hO4.cell hqj; have hfr := hO4.frozen j))
              go_roundw
              case rel => exact ⟨j, T % V, by omega, rfl, qs.set j lo, by have := HST.out; rw [← HLO.out] at this; exact Lib.hid this, hO4.put j lo, (hN4.mono (Nat.le_trans hgs (Nat.le_trans hb20.size (Nat.le_trans hbi.size hb3.size)))).put (Nat.lt_succ_self _) _⟩
              case measure => simp [intOf]
theorem hdiv_calls (va vb : Value) (us vs : List Nat) (w : World) (ha : IsH w va us) (hb : IsH w vb vs) (tv : trim vs = vs) (hv0 : vs ≠ []) (hlen : us.length + vs.length ≤ 2199023255552) :
    Calls Try.prog 171 #[va, vb] w (PostDH w (hval us / hval vs) (hval us % hval vs)) := by
  have hV : 0 < hval vs := by
    rcases Nat.eq_zero_or_pos (hval vs) with h | h
    · exact absurd (by rw [← tv, trimh_eq hb.1, h, dig_zero]) hv0
    · exact h
  by_cases h3 : us.length ≤ 3 ∧ vs.length ≤ 3
  · exact hdiv_small va vb us vs w ha hb hV h3.1 h3.2
  · by_cases h1 : vs.length = 1
    · match vs, h1 with
      | [d], _ =>
        rw [hval_single] at hV ⊢
        exact hdiv_one va vb us d w ha hb hV (by simp at h3; omega) (by omega)
    · exact hdiv_long va vb us vs w ha hb tv hv0 h1 (by omega) hlen
end Go.Proofs.Ytnmmgegnioihmaa
