/- Plain numbers: words of 32 bits, integers by sign and words, rationals by numerator and denominator; their least forms. No program in sight. -/
set_option linter.unusedVariables false
set_option linter.unusedSimpArgs false
namespace Go.Proofs.Ytnmmgegnioihmaa

/-- the number that words tell, the least word first -/
def val : List Nat → Nat
  | [] => 0
  | x :: xs => x + 4294967296 * val xs
def Rng (xs : List Nat) : Prop := ∀ x ∈ xs, x < 4294967296
theorem Rng.nil : Rng [] := fun _ h => by cases h
theorem Rng.cons {x xs} (hx : x < 4294967296) (h : Rng xs) : Rng (x :: xs) := fun y hy => by
  rcases List.mem_cons.1 hy with rfl | hy
  · exact hx
  · exact h y hy
theorem Rng.head {x xs} (h : Rng (x :: xs)) : x < 4294967296 := h x List.mem_cons_self
theorem Rng.tail {x xs} (h : Rng (x :: xs)) : Rng xs := fun y hy => h y (List.mem_cons_of_mem _ hy)
theorem Rng.append {xs ys} (h : Rng xs) (k : Rng ys) : Rng (xs ++ ys) := fun y hy => by
  rcases List.mem_append.1 hy with hy | hy
  · exact h y hy
  · exact k y hy
theorem Rng.take {xs} (h : Rng xs) (n : Nat) : Rng (xs.take n) := fun y hy => h y (List.mem_of_mem_take hy)
theorem Rng.drop {xs} (h : Rng xs) (n : Nat) : Rng (xs.drop n) := fun y hy => h y (List.mem_of_mem_drop hy)
theorem Rng.getD {xs} (h : Rng xs) (j : Nat) : xs.getD j 0 < 4294967296 := by
  rw [List.getD_eq_getElem?_getD]
  cases e : xs[j]? with
  | none => simp
  | some v => exact h v (List.mem_of_getElem? e)
theorem Rng.set {xs} (h : Rng xs) (j : Nat) {v} (hv : v < 4294967296) : Rng (xs.set j v) := fun y hy => by
  rcases List.mem_or_eq_of_mem_set hy with hy | rfl
  · exact h y hy
  · exact hv
theorem Rng.replicate (n : Nat) : Rng (List.replicate n 0) := fun y hy => by
  rw [(List.mem_replicate.1 hy).2]; omega
theorem val_append (xs ys : List Nat) : val (xs ++ ys) = val xs + 4294967296 ^ xs.length * val ys := by
  induction xs with
  | nil => simp [val]
  | cons x xs ih =>
    simp only [List.cons_append, val, ih, List.length_cons, Nat.pow_succ]
    rw [Nat.mul_add, Nat.add_assoc, ← Nat.mul_assoc, Nat.mul_comm (4294967296 ^ xs.length)]
theorem val_lt {xs : List Nat} (h : Rng xs) : val xs < 4294967296 ^ xs.length := by
  induction xs with
  | nil => simp [val]
  | cons x xs ih =>
    have h1 := ih h.tail
    have h2 := h.head
    simp only [val, List.length_cons, Nat.pow_succ]
    generalize 4294967296 ^ xs.length = p at *
    omega
theorem val_replicate (n : Nat) : val (List.replicate n 0) = 0 := by
  induction n with
  | zero => rfl
  | succ n ih => simp [List.replicate_succ, val, ih]
theorem val_snoc (xs : List Nat) (x : Nat) : val (xs ++ [x]) = val xs + 4294967296 ^ xs.length * x := by
  rw [val_append]; simp [val]
/-- the words of a number: none of them a zero at the end -/
def wordsOf (n : Nat) : List Nat := if h : n = 0 then [] else n % 4294967296 :: wordsOf (n / 4294967296)
termination_by n
decreasing_by omega
theorem wordsOf_zero : wordsOf 0 = [] := by rw [wordsOf]; simp
theorem wordsOf_pos {n : Nat} (h : n ≠ 0) : wordsOf n = n % 4294967296 :: wordsOf (n / 4294967296) := by rw [wordsOf]; simp [h]
theorem val_wordsOf (n : Nat) : val (wordsOf n) = n := by
  induction n using Nat.strongRecOn with
  | _ n ih =>
    by_cases h : n = 0
    · subst h; simp [wordsOf_zero, val]
    · rw [wordsOf_pos h, val, ih _ (by omega)]; omega
theorem rng_wordsOf (n : Nat) : Rng (wordsOf n) := by
  induction n using Nat.strongRecOn with
  | _ n ih =>
    by_cases h : n = 0
    · subst h; rw [wordsOf_zero]; exact Rng.nil
    · rw [wordsOf_pos h]; exact Rng.cons (by omega) (ih _ (by omega))
theorem wordsOf_eq_nil {n : Nat} : wordsOf n = [] ↔ n = 0 := by
  constructor
  · intro h; rw [← val_wordsOf n, h]; rfl
  · rintro rfl; exact wordsOf_zero
theorem wordsOf_len {n k : Nat} (h : n < 4294967296 ^ k) : (wordsOf n).length ≤ k := by
  induction k generalizing n with
  | zero => have : n = 0 := by simpa using h
            subst this; simp [wordsOf_zero]
  | succ k ih =>
    by_cases h0 : n = 0
    · subst h0; simp [wordsOf_zero]
    · rw [wordsOf_pos h0, List.length_cons]
      have := ih (n := n / 4294967296) (by rw [Nat.pow_succ] at h; exact Nat.div_lt_of_lt_mul (by rw [Nat.mul_comm]; exact h))
      omega
theorem wordsOf_len_mono {m n : Nat} (h : m ≤ n) : (wordsOf m).length ≤ (wordsOf n).length := by
  refine wordsOf_len (Nat.lt_of_le_of_lt h ?_)
  have := val_lt (rng_wordsOf n)
  rwa [val_wordsOf] at this
theorem lt_wordsOf_len (n : Nat) : n < 4294967296 ^ (wordsOf n).length := by
  have := val_lt (rng_wordsOf n)
  rwa [val_wordsOf] at this
/-- words without the zeros at the end -/
def trim (xs : List Nat) : List Nat := (xs.reverse.dropWhile (· == 0)).reverse
theorem trim_nil : trim [] = [] := rfl
theorem trim_zero (xs : List Nat) : trim (xs ++ [0]) = trim xs := by simp [trim]
theorem trim_snoc (xs : List Nat) {x : Nat} (h : x ≠ 0) : trim (xs ++ [x]) = xs ++ [x] := by
  simp [trim, List.dropWhile_cons, h]
theorem list_snoc (xs : List Nat) : xs = [] ∨ ∃ ys y, xs = ys ++ [y] := by
  rcases List.eq_nil_or_concat xs with h | ⟨ys, y, h⟩
  · exact .inl h
  · exact .inr ⟨ys, y, by simpa using h⟩
theorem snoc_ind {P : List Nat → Prop} (h0 : P []) (h1 : ∀ xs x, P xs → P (xs ++ [x])) (xs : List Nat) : P xs := by
  have : ∀ n (xs : List Nat), xs.length = n → P xs := by
    intro n
    induction n with
    | zero => intro xs h; rw [List.length_eq_zero_iff.1 h]; exact h0
    | succ n ih =>
      intro xs h
      rcases list_snoc xs with rfl | ⟨ys, y, rfl⟩
      · simp at h
      · exact h1 _ _ (ih ys (by simpa using h))
  exact this _ xs rfl
theorem trim_eq {xs : List Nat} (h : Rng xs) : trim xs = wordsOf (val xs) := by
  have key : ∀ xs : List Nat, Rng xs → (∀ ys y, xs = ys ++ [y] → y ≠ 0) → wordsOf (val xs) = xs := by
    intro xs
    induction xs with
    | nil => intro _ _; simp [val, wordsOf_zero]
    | cons x xs ih =>
      intro hr hl
      have hx := hr.head
      have h1 : x + 4294967296 * val xs ≠ 0 := by
        rcases list_snoc xs with rfl | ⟨ys, y, rfl⟩
        · have := hl [] x rfl; simp [val]; exact this
        · have := hl (x :: ys) y rfl
          rw [val_snoc]
          have h2 : 0 < 4294967296 ^ ys.length * y := Nat.mul_pos (Nat.pow_pos (by omega)) (by omega)
          omega
      rw [val, wordsOf_pos h1]
      rw [show (x + 4294967296 * val xs) % 4294967296 = x from by omega, show (x + 4294967296 * val xs) / 4294967296 = val xs from by omega]
      rw [ih hr.tail (fun ys y e => hl (x :: ys) y (by rw [e]; rfl))]
  induction xs using snoc_ind with
  | h0 => simp [trim_nil, val, wordsOf_zero]
  | h1 xs x ih =>
    by_cases hx : x = 0
    · subst hx
      rw [trim_zero, ih (fun y hy => h y (List.mem_append_left _ hy)), val_snoc]; simp
    · rw [trim_snoc _ hx]
      refine (key _ h ?_).symm
      intro ys y e
      have := congrArg List.getLast? e
      simp at this
      omega
theorem trim_prefix (xs : List Nat) : ∃ k, k ≤ xs.length ∧ trim xs = xs.take k := by
  induction xs using snoc_ind with
  | h0 => exact ⟨0, by simp, rfl⟩
  | h1 xs x ih =>
    by_cases hx : x = 0
    · subst hx
      obtain ⟨k, hk, e⟩ := ih
      exact ⟨k, by simp; omega, by rw [trim_zero, e, List.take_append_of_le_length hk]⟩
    · exact ⟨(xs ++ [x]).length, Nat.le_refl _, by rw [trim_snoc _ hx, List.take_length]⟩
theorem trim_len (xs : List Nat) : (trim xs).length ≤ xs.length := by
  obtain ⟨k, hk, e⟩ := trim_prefix xs
  rw [e]; simp; omega
theorem val_trim {xs : List Nat} (h : Rng xs) : val (trim xs) = val xs := by rw [trim_eq h, val_wordsOf]
theorem trim_words (n : Nat) : trim (wordsOf n) = wordsOf n := by rw [trim_eq (rng_wordsOf n), val_wordsOf]

/-! ### integers -/
structure Zr where
  neg : Bool
  ws : List Nat
def Zr.val (z : Zr) : Int := if z.neg then -(Ytnmmgegnioihmaa.val z.ws : Int) else (Ytnmmgegnioihmaa.val z.ws : Int)
def canZ (i : Int) : Zr := ⟨decide (i < 0), wordsOf i.natAbs⟩
theorem canZ_val (i : Int) : (canZ i).val = i := by
  unfold Zr.val canZ
  simp only [val_wordsOf, decide_eq_true_eq]
  split <;> omega
theorem canZ_rng (i : Int) : Rng (canZ i).ws := rng_wordsOf _
theorem canZ_len {i : Int} {k : Nat} (h : i.natAbs < 4294967296 ^ k) : (canZ i).ws.length ≤ k := wordsOf_len h
theorem Zr.natAbs (z : Zr) : z.val.natAbs = Ytnmmgegnioihmaa.val z.ws := by unfold Zr.val; split <;> omega
theorem Zr.val_lt {z : Zr} (h : Rng z.ws) : z.val.natAbs < 4294967296 ^ z.ws.length := by rw [z.natAbs]; exact Ytnmmgegnioihmaa.val_lt h
/-- what 'made' returns -/
theorem made_eq (b : Bool) (xs : List Nat) (h : Rng xs) : (⟨b && decide (0 < (trim xs).length), trim xs⟩ : Zr) = canZ (if b then -(Ytnmmgegnioihmaa.val xs : Int) else (Ytnmmgegnioihmaa.val xs : Int)) := by
  rw [trim_eq h]
  unfold canZ
  have h1 : (if b then -(Ytnmmgegnioihmaa.val xs : Int) else (Ytnmmgegnioihmaa.val xs : Int)).natAbs = Ytnmmgegnioihmaa.val xs := by split <;> omega
  rw [h1]
  congr 1
  have h2 : 0 < (wordsOf (Ytnmmgegnioihmaa.val xs)).length ↔ 0 < Ytnmmgegnioihmaa.val xs := by
    rw [List.length_pos_iff, Ne, wordsOf_eq_nil]; omega
  cases b
  · simp
  · simp only [Bool.true_and, if_true, decide_eq_decide, h2]; omega

/-! ### rationals -/
structure Qr where
  n : Zr
  d : Zr
/-- the denominator that counts -/
def Qr.dv (q : Qr) : Int := if q.d.val = 0 then 1 else q.d.val
def Qr.val (q : Qr) : Rat := Rat.divInt q.n.val q.dv
theorem Qr.dv_ne (q : Qr) : q.dv ≠ 0 := by unfold Qr.dv; split <;> omega
/-- the greatest number of words, and one -/
def Qr.S (q : Qr) : Nat := max q.n.ws.length q.d.ws.length + 1
def Qr.Ok (q : Qr) : Prop := Rng q.n.ws ∧ Rng q.d.ws
def canQ (x : Rat) : Qr := ⟨canZ x.num, if x.den = 1 then ⟨false, []⟩ else canZ x.den⟩
theorem canQ_ok (x : Rat) : (canQ x).Ok := by
  refine ⟨canZ_rng _, ?_⟩
  unfold canQ
  dsimp only
  split
  · exact Rng.nil
  · exact canZ_rng _
theorem canQ_dv (x : Rat) : (canQ x).dv = x.den := by
  have := x.den_nz
  unfold Qr.dv canQ
  dsimp only
  split
  · simp [Zr.val, Ytnmmgegnioihmaa.val]; try omega
  · rw [canZ_val]; rw [if_neg (by omega)]
theorem canQ_val (x : Rat) : (canQ x).val = x := by
  unfold Qr.val
  rw [canQ_dv]
  unfold canQ
  rw [canZ_val]
  exact Rat.num_divInt_den x
theorem natAbs_ediv_le (a b : Int) (hb : b ≠ 0) (h : b ∣ a) : (a / b).natAbs ≤ a.natAbs := by
  obtain ⟨c, rfl⟩ := h
  rw [Int.mul_ediv_cancel_left _ hb, Int.natAbs_mul]
  exact Nat.le_mul_of_pos_left _ (by omega)
/-- the least form of a fraction is no greater than the fraction -/
theorem divInt_num_le (a b : Int) (hb : b ≠ 0) : (Rat.divInt a b).num.natAbs ≤ a.natAbs := by
  rw [Rat.num_divInt]
  have hg : ((b.gcd a : Nat) : Int) ≠ 0 := by
    intro h
    have h0 : b.gcd a = 0 := by omega
    exact hb (Int.gcd_eq_zero_iff.1 h0).1
  refine Nat.le_trans (natAbs_ediv_le _ _ hg ?_) ?_
  · exact Int.dvd_mul_of_dvd_right (Int.gcd_dvd_right ..)
  · rw [Int.natAbs_mul]
    have : b.sign.natAbs ≤ 1 := by rcases Int.lt_trichotomy b 0 with h | h | h <;> simp [Int.sign_eq_neg_one_of_neg, Int.sign_eq_one_of_pos, h]
    calc b.sign.natAbs * a.natAbs ≤ 1 * a.natAbs := Nat.mul_le_mul_right _ this
      _ = a.natAbs := Nat.one_mul _
theorem divInt_den_le (a b : Int) (hb : b ≠ 0) : (Rat.divInt a b).den ≤ b.natAbs := by
  rw [Rat.den_divInt, if_neg hb]
  exact Nat.div_le_self _ _
theorem canQ_S {x : Rat} {k : Nat} (h1 : x.num.natAbs < 4294967296 ^ k) (h2 : x.den < 4294967296 ^ k) : (canQ x).S ≤ k + 1 := by
  unfold Qr.S canQ
  dsimp only
  have h3 := canZ_len h1
  have h4 : (if x.den = 1 then (⟨false, []⟩ : Zr) else canZ x.den).ws.length ≤ k := by
    split
    · simp
    · exact canZ_len (by simpa using h2)
  omega
theorem canQ_S_divInt {a b : Int} {k : Nat} (hb : b ≠ 0) (h1 : a.natAbs < 4294967296 ^ k) (h2 : b.natAbs < 4294967296 ^ k) : (canQ (Rat.divInt a b)).S ≤ k + 1 :=
  canQ_S (Nat.lt_of_le_of_lt (divInt_num_le a b hb) h1) (Nat.lt_of_le_of_lt (divInt_den_le a b hb) h2)
theorem Qr.num_lt {q : Qr} (h : q.Ok) : q.n.val.natAbs < 4294967296 ^ (q.S - 1) :=
  Nat.lt_of_lt_of_le (Zr.val_lt h.1) (Nat.pow_le_pow_right (by omega) (by unfold Qr.S; omega))
theorem Qr.dv_le {q : Qr} (h : q.Ok) : q.dv.natAbs ≤ 4294967296 ^ (q.S - 1) := by
  unfold Qr.dv
  split
  · exact Nat.pow_pos (by omega)
  · exact Nat.le_of_lt (Nat.lt_of_lt_of_le (Zr.val_lt h.2) (Nat.pow_le_pow_right (by omega) (by unfold Qr.S; omega)))
end Go.Proofs.Ytnmmgegnioihmaa
