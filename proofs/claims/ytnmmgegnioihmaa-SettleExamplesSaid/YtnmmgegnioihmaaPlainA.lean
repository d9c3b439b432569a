/- Plain numbers: words of 32 bits, integers by sign and words, rationals by numerator and denominator; their least forms. No program in sight. -/
set_option linter.unusedVariables false
set_option linter.unusedSimpArgs false
namespace Go.Proofs.Ytnmmgegnioihmaa

/-- the number that words tell, the least word first -/
def val : List Nat → Nat
  | [] => 0
  | x :: xs => x + 4294967296 * val xs
def Rng (xs : List Nat) : Prop := ∀ x ∈ xs, x < 4294967296
theorem Rng.nil : Rng [] := fun _ h => by cases h
theorem Rng.cons {x xs} (hx : x < 4294967296) (h : Rng xs) : Rng (x :: xs) := fun y hy => by
  rcases List.mem_cons.1 hy with rfl | hy
  · exact hx
  · exact h y hy
theorem Rng.head {x xs} (h : Rng (x :: xs)) : x < 4294967296 := h x List.mem_cons_self
theorem Rng.tail {x xs} (h : Rng (x :: xs)) : Rng xs := fun y hy => h y (List.mem_cons_of_mem _ hy)
theorem Rng.append {xs ys} (h : Rng xs) (k : Rng ys) : Rng (xs ++ ys) := fun y hy => by
  rcases List.mem_append.1 hy with hy | hy
  · exact h y hy
  · exact k y hy
theorem Rng.take {xs} (h : Rng xs) (n : Nat) : Rng (xs.take n) := fun y hy => h y (List.mem_of_mem_take hy)
theorem Rng.drop {xs} (h : Rng xs) (n : Nat) : Rng (xs.drop n) := fun y hy => h y (List.mem_of_mem_drop hy)
theorem Rng.getD {xs} (h : Rng xs) (j : Nat) : xs.getD j 0 < 4294967296 := by
  rw [List.getD_eq_getElem?_getD]
  cases e : xs[j]? with
  | none => simp
  | some v => exact h v (List.mem_of_getElem? e)
theorem Rng.set {xs} (h : Rng xs) (j : Nat) {v} (hv : v < 4294967296) : Rng (xs.set j v) := fun y hy => by
  rcases List.mem_or_eq_of_mem_set hy with hy | rfl
  · exact h y hy
  · exact hv
theorem Rng.replicate (n : Nat) : Rng (List.replicate n 0) := fun y hy => by
  rw [(List.mem_replicate.1 hy).2]; omega
theorem val_append (xs ys : List Nat) : val (xs ++ ys) = val xs + 4294967296 ^ xs.length * val ys := by
  induction xs with
  | nil => simp [val]
  | cons x xs ih =>
    simp only [List.cons_append, val, ih, List.length_cons, Nat.pow_succ]
    rw [Nat.mul_add, Nat.add_assoc, ← Nat.mul_assoc, Nat.mul_comm (4294967296 ^ xs.length)]
theorem val_lt {xs : List Nat} (h : Rng xs) : val xs < 4294967296 ^ xs.length := by
  induction xs with
  | nil => simp [val]
  | cons x xs ih =>
    have h1 := ih h.tail
    have h2 := h.head
    simp only [val, List.length_cons, Nat.pow_succ]
    generalize 4294967296 ^ xs.length = p at *
    omega
theorem val_replicate (n : Nat) : val (List.replicate n 0) = 0 := by
  induction n with
  | zero => rfl
  | succ n ih => simp [List.replicate_succ, val, ih]
theorem val_snoc (xs : List Nat) (x : Nat) : val (xs ++ [x]) = val xs + 4294967296 ^ xs.length * x := by
  rw [val_append]; simp [val]
/-- the words of a number: none of them a zero at the end -/
def wordsOf (n : Nat) : List Nat := if h : n = 0 then [] else n % 4294967296 :: wordsOf (n / 4294967296)
termination_by n
decreasing_by omega
theorem wordsOf_zero : wordsOf 0 = [] := by rw [wordsOf]; simp
theorem wordsOf_pos {n : Nat} (h : n ≠ 0) : wordsOf n = n % 4294967296 :: wordsOf (n / 4294967296) := by rw [wordsOf]; simp [h]
theorem val_wordsOf (n : Nat) : val (wordsOf n) = n := by
  induction n using Nat.strongRecOn with
  | _ n ih =>
    by_cases h : n = 0
    · subst h; simp [wordsOf_zero, val]
    · rw [wordsOf_pos h, val, ih _ (by omega)]; omega
theorem rng_wordsOf (n : Nat) : Rng (wordsOf n) := by
  induction n using Nat.strongRecOn with
  | _ n ih =>
    by_cases h : n = 0
    · subst h; rw [wordsOf_zero]; exact Rng.nil
    · rw [wordsOf_pos h]; exact Rng.cons (by omega) (ih _ (by omega))
theorem wordsOf_eq_nil {n : Nat} : wordsOf n = [] ↔ n = 0 := by
  constructor
  · intro h; rw [← val_wordsOf n, h]; rfl
  · rintro rfl; exact wordsOf_zero
theorem wordsOf_len {n k : Nat} (h : n < 4294967296 ^ k) : (wordsOf n).length ≤ k := by
  induction k generalizing n with
  | zero => have : n = 0 := by simpa using h
            subst this; simp [wordsOf_zero]
  | succ k ih =>
    by_cases h0 : n = 0
    · subst h0; simp [wordsOf_zero]
    · rw [wordsOf_pos h0, List.length_cons]
      have := ih (n := n / 4294967296) (by rw [Nat.pow_succ] at h; exact Nat.div_lt_of_lt_mul (by rw [Nat.mul_comm]; exact h))
      omega
theorem wordsOf_len_mono {m n : Nat} (h : m ≤ n) : (wordsOf m).length ≤ (wordsOf n).length := by
  refine wordsOf_len (Nat.lt_of_le_of_lt h ?_)
  have := val_lt (rng_wordsOf n)
  rwa [val_wordsOf] at this
theorem lt_wordsOf_len (n : Nat) : n < 4294967296 ^ (wordsOf n).length := by
  have := val_lt (rng_wordsOf n)
  rwa [val_wordsOf] at this
/-- words without the zeros at the end -/
def trim (xs : List Nat) : List Nat := (xs.reverse.dropWhile (· == 0)).reverse
theorem trim_nil : trim [] = [] := rfl
theorem trim_zero (xs : List Nat) : trim (xs ++ [0]) = trim xs := by simp [trim]
theorem trim_snoc (xs : List Nat) {x : Nat} (h : x ≠ 0) : trim (xs ++ [x]) = xs ++ [x] := by
  simp [trim, List.dropWhile_cons, h]
theorem list_snoc (xs : List Nat) : xs = [] ∨ ∃ ys y, xs = ys ++ [y] := by
  rcases List.eq_nil_or_concat xs with h | ⟨ys, y, h⟩
  · exact .inl h
  · exact .inr ⟨ys, y, by simpa using h⟩
theorem snoc_ind {P : List Nat → Prop} (h0 : P []) (h1 : ∀ xs x, P xs → P (xs ++ [x])) (xs : List Nat) : P xs := by
  have : ∀ n (xs : List Nat), xs.length = n → P xs := by
    intro n
    induction n with
    | zero => intro xs h; rw [List.length_eq_zero_iff.1 h]; exact h0
    | succ n ih =>
      intro xs h
      rcases list_snoc xs with rfl | ⟨ys, y, rfl⟩
      · simp at h
      · exact h1 _ _ (ih ys (by simpa using h))
  exact this _ xs rfl
theorem trim_eq {xs : List Nat} (h : Rng xs) : trim xs = wordsOf (val xs) := by
  have key : ∀ xs : List Nat, Rng xs → (∀ ys y, xs = ys ++ [y] → y ≠ 0) → wordsOf (val xs) = xs := by
    intro xs
    induction xs with
    | nil => intro _ _; simp [val, wordsOf_zero]
    | cons x xs ih =>
      intro hr hl
      have hx := hr.head
      have h1 : x + 4294967296 * val xs ≠ 0 := by
        rcases list_snoc xs with rfl | ⟨ys, y, rfl⟩
        · have := hl [] x rfl; simp [val]; exact this
        · have := hl (x :: ys) y rfl
          rw [val_snoc]
          have h2 : 0 < 4294967296 ^ ys.length * y := Nat.mul_pos (Nat.pow_pos (by omega)) (by omega)
          omega
      rw [val, wordsOf_pos h1]
      rw [show (x + 4294967296 * val xs) % 4294967296 = x from by omega, show (x + 4294967296 * val xs) / 4294967296 = val xs from by omega]
      rw [ih hr.tail (fun ys y e => hl (x :: ys) y (by rw [e]; rfl))]
  induction xs using snoc_ind with
  | h0 => simp [trim_nil, val, wordsOf_zero]
  | h1 xs x ih =>
    by_cases hx : x = 0
    · subst hx
      rw [trim_zero, ih (fun y hy => h y (List.mem_append_left _ hy)), val_snoc]; simp
    · rw [trim_snoc _ hx]
      refine (key _ h ?_).symm
      intro ys y e
      have := congrArg List.getLast? e
      simp at this
      omega
theorem trim_prefix (xs : List Nat) : ∃ k, k ≤ xs.length ∧ trim xs = xs.take k := by
  induction xs using snoc_ind with
  | h0 => exact ⟨0, by simp, rfl⟩
  | h1 xs x ih =>
    by_cases hx : x = 0
    · subst hx
      obtain ⟨k, hk, e⟩ := ih
      exact ⟨k, by simp; omega, by rw [trim_zero, e, List.take_append_of_le_length hk]⟩
    · exact ⟨(xs ++ [x]).length, Nat.le_refl _, by rw [trim_snoc _ hx, List.take_length]⟩
theorem trim_len (xs : List Nat) : (trim xs).length ≤ xs.length := by
  obtain ⟨k, hk, e⟩ := trim_prefix xs
  rw [e]; simp; omega
theorem val_trim {xs : List Nat} (h : Rng xs) : val (trim xs) = val xs := by rw [trim_eq h, val_wordsOf]
theorem trim_words (n : Nat) : trim (wordsOf n) = wordsOf n := by rw [trim_eq (rng_wordsOf n), val_wordsOf]

/-! ### integers -/
structure Zr where
  neg : Bool
  ws : List Nat
def Zr.val (z : Zr) : Int := if z.neg then -(Ytnmmgegnioihmaa.val z.ws : Int) else (Ytnmmgegnioihmaa.val z.ws : Int)
def canZ (i : Int) : Zr := ⟨decide (i < 0), wordsOf i.natAbs⟩
theorem canZ_val (i : Int) : (canZ i).val = i := by
  unfold Zr.val canZ
  simp only [val_wordsOf, decide_eq_true_eq]
  split <;> omega
theorem canZ_rng (i : Int) : Rng (canZ i).ws := rng_wordsOf _
theorem canZ_len {i : Int} {k : Nat} (h : i.natAbs < 4294967296 ^ k) : (canZ i).ws.length ≤ k := wordsOf_len h
theorem Zr.natAbs (z : Zr) : z.val.natAbs = Ytnmmgegnioihmaa.val z.ws := by unfold Zr.val; split <;> omega
theorem Zr.val_lt {z : Zr} (h : Rng z.ws) : z.val.natAbs < 4294967296 ^ z.ws.length := by rw [z.natAbs]; exact Ytnmmgegnioihmaa.val_lt h
/-- what 'made' returns -/
theorem made_eq (b : Bool) (xs : List Nat) (h : Rng xs) : (⟨b && decide (0 < (trim xs).length), trim xs⟩ : Zr) = canZ (if b then -(Ytnmmgegnioihmaa.val xs : Int) else (Ytnmmgegnioihmaa.val xs : Int)) := by
  rw [trim_eq h]
  unfold canZ
  have h1 : (if b then -(Ytnmmgegnioihmaa.val xs : Int) else (Ytnmmgegnioihmaa.val xs : Int)).natAbs = Ytnmmgegnioihmaa.val xs := by split <;> omega
  rw [h1]
  congr 1
  have h2 : 0 < (wordsOf (Ytnmmgegnioihmaa.val xs)).length ↔ 0 < Ytnmmgegnioihmaa.val xs := by
    rw [List.length_pos_iff, Ne, wordsOf_eq_nil]; omega
  cases b
  · simp
  · simp only [Bool.true_and, if_true, decide_eq_decide, h2]; omega

/-! ### rationals -/
structure Qr where
  n : Zr
  d : Zr
/-- the denominator that counts -/
def Qr.dv (q : Qr) : Int := if q.d.val = 0 then 1 else q.d.val
def Qr.val (q : Qr) : Rat := Rat.divInt q.n.val q.dv
theorem Qr.dv_ne (q : Qr) : q.dv ≠ 0 := by unfold Qr.dv; split <;> omega
/-- the greatest number of words, and one -/
def Qr.S (q : Qr) : Nat := max q.n.ws.length q.d.ws.length + 1
def Qr.Ok (q : Qr) : Prop := Rng q.n.ws ∧ Rng q.d.ws
def canQ (x : Rat) : Qr := ⟨canZ x.num, if x.den = 1 then ⟨false, []⟩ else canZ x.den⟩
theorem canQ_ok (x : Rat) : (canQ x).Ok := by
  refine ⟨canZ_rng _, ?_⟩
  unfold canQ
  dsimp only
  split
  · exact Rng.nil
  · exact canZ_rng _
theorem canQ_dv (x : Rat) : (canQ x).dv = x.den := by
  have := x.den_nz
  unfold Qr.dv canQ
  dsimp only
  split
  · simp [Zr.val, Ytnmmgegnioihmaa.val]; try omega
  · rw [canZ_val]; rw [if_neg (by omega)]
theorem canQ_val (x : Rat) : (canQ x).val = x := by
  unfold Qr.val
  rw [canQ_dv]
  unfold canQ
  rw [canZ_val]
  exact Rat.num_divInt_den x
theorem natAbs_ediv_le (a b : Int) (hb : b ≠ 0) (h : b ∣ a) : (a / b).natAbs ≤ a.natAbs := by
  obtain ⟨c, rfl⟩ := h
  rw [Int.mul_ediv_cancel_left _ hb, Int.natAbs_mul]
  exact Nat.le_mul_of_pos_left _ (by omega)
/-- the least form of a fraction is no greater than the fraction -/
theorem divInt_num_le (a b : Int) (hb : b ≠ 0) : (Rat.divInt a b).num.natAbs ≤ a.natAbs := by
  rw [Rat.num_divInt]
  have hg : ((b.gcd a : Nat) : Int) ≠ 0 := by
    intro h
    have h0 : b.gcd a = 0 := by omega
    exact hb (Int.gcd_eq_zero_iff.1 h0).1
  refine Nat.le_trans (natAbs_ediv_le _ _ hg ?_) ?_
  · exact Int.dvd_mul_of_dvd_right (Int.gcd_dvd_right ..)
  · rw [Int.natAbs_mul]
    have : b.sign.natAbs ≤ 1 := by rcases Int.lt_trichotomy b 0 with h | h | h <;> simp [Int.sign_eq_neg_one_of_neg, Int.sign_eq_one_of_pos, h]
    calc b.sign.natAbs * a.natAbs ≤ 1 * a.natAbs := Nat.mul_le_mul_right _ this
      _ = a.natAbs := Nat.one_mul _
theorem divInt_den_le (a b : Int) (hb : b ≠ 0) : (Rat.divInt a b).den ≤ b.natAbs := by
  rw [Rat.den_divInt, if_neg hb]
  exact Nat.div_le_self _ _
theorem canQ_S {x : Rat} {k : Nat} (h1 : x.num.natAbs < 4294967296 ^ k) (h2 : x.den < 4294967296 ^ k) : (canQ x).S ≤ k + 1 := by
  unfold Qr.S canQ
  dsimp only
  have h3 := canZ_len h1
  have h4 : (if x.den = 1 then (⟨false, []⟩ : Zr) else canZ x.den).ws.length ≤ k := by
    split
    · simp
    · exact canZ_len (by simpa using h2)
  omega
theorem canQ_S_divInt {a b : Int} {k : Nat} (hb : b ≠ 0) (h1 : a.natAbs < 4294967296 ^ k) (h2 : b.natAbs < 4294967296 ^ k) : (canQ (Rat.divInt a b)).S ≤ k + 1 :=
  canQ_S (Nat.lt_of_le_of_lt (divInt_num_le a b hb) h1) (Nat.lt_of_le_of_lt (divInt_den_le a b hb) h2)
theorem Qr.num_lt {q : Qr} (h : q.Ok) : q.n.val.natAbs < 4294967296 ^ (q.S - 1) :=
  Nat.lt_of_lt_of_le (Zr.val_lt h.1) (Nat.pow_le_pow_right (by omega) (by unfold Qr.S; omega))
theorem Qr.dv_le {q : Qr} (h : q.Ok) : q.dv.natAbs ≤ 4294967296 ^ (q.S - 1) := by
  unfold Qr.dv
  split
  · exact Nat.pow_pos (by omega)
  · exact Nat.le_of_lt (Nat.lt_of_lt_of_le (Zr.val_lt h.2) (Nat.pow_le_pow_right (by omega) (by unfold Qr.S; omega)))
end Go.Proofs.Ytnmmgegnioihmaa
namespace Go.Proofs.Ytnmmgegnioihmaa

/-- the words and the carry behind the digits vs, each less than 2^33 or so -/
def crun (vs : List Nat) : List Nat × Nat := vs.foldl (fun p v => (p.1 ++ [(v + p.2) % 4294967296], (v + p.2) / 4294967296)) ([], 0)
theorem crun_nil : crun [] = ([], 0) := rfl
theorem crun_snoc (vs : List Nat) (v : Nat) : crun (vs ++ [v]) = ((crun vs).1 ++ [(v + (crun vs).2) % 4294967296], (v + (crun vs).2) / 4294967296) := by simp [crun]
theorem crun_len (vs : List Nat) : (crun vs).1.length = vs.length := by
  induction vs using snoc_ind with
  | h0 => rfl
  | h1 vs v ih => rw [crun_snoc]; simp [ih]
theorem crun_rng (vs : List Nat) : Rng (crun vs).1 := by
  induction vs using snoc_ind with
  | h0 => exact Rng.nil
  | h1 vs v ih => rw [crun_snoc]; exact Rng.append ih (Rng.cons (by omega) Rng.nil)
theorem crun_val (vs : List Nat) : val (crun vs).1 + 4294967296 ^ vs.length * (crun vs).2 = val vs := by
  induction vs using snoc_ind with
  | h0 => rfl
  | h1 vs v ih =>
    rw [crun_snoc]
    dsimp only
    rw [val_snoc, val_snoc, crun_len, List.length_append, List.length_singleton, Nat.pow_succ]
    generalize 4294967296 ^ vs.length = p at *
    have h1 := Nat.div_add_mod (v + (crun vs).2) 4294967296
    have h2 : p * ((v + (crun vs).2) % 4294967296) + p * 4294967296 * ((v + (crun vs).2) / 4294967296) = p * (v + (crun vs).2) := by
      rw [Nat.mul_assoc, ← Nat.mul_add]; congr 1; omega
    rw [Nat.mul_add] at h2
    omega
theorem crun_carry {vs : List Nat} (h : ∀ v ∈ vs, v < 8589934592) : (crun vs).2 ≤ 2 := by
  induction vs using snoc_ind with
  | h0 => simp [crun_nil]
  | h1 vs v ih =>
    rw [crun_snoc]
    have := ih fun u hu => h u (List.mem_append_left _ hu)
    have := h v (by simp)
    dsimp only
    omega
/-- all the words: the carry behind the others -/
def cout (vs : List Nat) : List Nat := (crun vs).1 ++ [(crun vs).2 % 4294967296]
theorem cout_rng (vs : List Nat) : Rng (cout vs) := Rng.append (crun_rng vs) (Rng.cons (by omega) Rng.nil)
theorem cout_len (vs : List Nat) : (cout vs).length = vs.length + 1 := by simp [cout, crun_len]
theorem cout_val {vs : List Nat} (h : ∀ v ∈ vs, v < 8589934592) : val (cout vs) = val vs := by
  have h1 := crun_val vs
  have h2 := crun_carry h
  unfold cout
  rw [val_snoc, crun_len, Nat.mod_eq_of_lt (by omega)]
  exact h1

/-! ### the digits of a sum and of a difference -/
def digs (us vs : List Nat) (f : Nat → Nat → Nat) (k : Nat) : List Nat := (List.range k).map fun j => f (us.getD j 0) (vs.getD j 0)
theorem digs_zero (us vs : List Nat) (f : Nat → Nat → Nat) : digs us vs f 0 = [] := rfl
theorem digs_succ (us vs : List Nat) (f : Nat → Nat → Nat) (k : Nat) : digs us vs f (k + 1) = digs us vs f k ++ [f (us.getD k 0) (vs.getD k 0)] := by simp [digs, List.range_succ]
theorem digs_len (us vs : List Nat) (f : Nat → Nat → Nat) (k : Nat) : (digs us vs f k).length = k := by simp [digs]
theorem val_take_succ (us : List Nat) (k : Nat) : val (us.take (k + 1)) = val (us.take k) + 4294967296 ^ k * us.getD k 0 := by
  rw [List.getD_eq_getElem?_getD]
  rcases Nat.lt_or_ge k us.length with h | h
  · rw [List.take_succ_eq_append_getElem h, val_snoc, List.getElem?_eq_getElem h, List.length_take, Nat.min_eq_left (Nat.le_of_lt h)]; rfl
  · rw [List.take_of_length_le (by omega), List.take_of_length_le h, List.getElem?_eq_none h]; simp
theorem val_digs_add (us vs : List Nat) (k : Nat) : val (digs us vs (fun x y => x + y) k) = val (us.take k) + val (vs.take k) := by
  induction k with
  | zero => simp [digs, val]
  | succ k ih => rw [digs_succ, val_snoc, ih, digs_len, val_take_succ, val_take_succ, Nat.mul_add]; omega
theorem sub_step (B p x y : Nat) (h : y < B) : p * (x + B - 1 - y) + p * y + p = p * x + p * B := by
  have h1 : x + B = (x + B - 1 - y) + y + 1 := by omega
  rw [← Nat.mul_add p x B]
  generalize x + B - 1 - y = a at *
  rw [h1, Nat.mul_add, Nat.mul_add, Nat.mul_one]
/-- the digit of a difference -/
def subD (x y : Nat) : Nat := x + 4294967296 - 1 - y
theorem subD_step (p x y : Nat) (h : y < 4294967296) : p * subD x y + p * y + p = p * x + p * 4294967296 := sub_step 4294967296 p x y h
theorem subD_lt {x y : Nat} (h : x < 4294967296) : subD x y < 8589934592 := by unfold subD; omega
theorem sub_sum {S V U p a b c d : Nat} (ih : S + V + 1 = U + p) (h : a + b + p = c + d) : S + a + (V + b) + 1 = U + c + d := by omega
theorem val_digs_sub (us : List Nat) {vs : List Nat} (hv : Rng vs) (k : Nat) : val (digs us vs subD k) + val (vs.take k) + 1 = val (us.take k) + 4294967296 ^ k := by
  induction k with
  | zero => simp [digs, val]
  | succ k ih =>
    rw [digs_succ, val_snoc, digs_len, val_take_succ, val_take_succ, Nat.pow_succ]
    exact sub_sum ih (subD_step (4294967296 ^ k) _ _ (hv.getD k))
theorem digs_add_lt {us vs : List Nat} (hu : Rng us) (hv : Rng vs) (k : Nat) : ∀ v ∈ digs us vs (fun x y => x + y) k, v < 8589934592 := fun v h => by
  obtain ⟨j, _, rfl⟩ := List.mem_map.1 h
  have := hu.getD j
  have := hv.getD j
  dsimp only
  omega
theorem digs_sub_lt {us vs : List Nat} (hu : Rng us) (hv : Rng vs) (k : Nat) : ∀ v ∈ digs us vs subD k, v < 8589934592 := fun v h => by
  obtain ⟨j, _, rfl⟩ := List.mem_map.1 h
  exact subD_lt (hu.getD j)
/-- what whole.add returns -/
def addW (us vs : List Nat) : List Nat := cout (digs us vs (fun x y => x + y) (max us.length vs.length))
theorem addW_val {us vs : List Nat} (hu : Rng us) (hv : Rng vs) : val (addW us vs) = val us + val vs := by
  unfold addW
  rw [cout_val (digs_add_lt hu hv _), val_digs_add, List.take_of_length_le (by omega), List.take_of_length_le (by omega)]
theorem addW_rng (us vs : List Nat) : Rng (addW us vs) := cout_rng _
theorem addW_len (us vs : List Nat) : (addW us vs).length = max us.length vs.length + 1 := by unfold addW; rw [cout_len, digs_len]
/-- what whole.sub returns -/
def subAll (us vs : List Nat) : List Nat := cout (4294967296 :: digs us vs subD (max us.length vs.length))
def subW (us vs : List Nat) : List Nat := ((subAll us vs).take ((subAll us vs).length - 1)).drop 1
theorem subAll_len (us vs : List Nat) : (subAll us vs).length = max us.length vs.length + 2 := by unfold subAll; rw [cout_len]; simp [digs_len]
theorem subAll_rng (us vs : List Nat) : Rng (subAll us vs) := cout_rng _
theorem subW_rng (us vs : List Nat) : Rng (subW us vs) := ((subAll_rng us vs).take _).drop _
theorem subW_len (us vs : List Nat) : (subW us vs).length = max us.length vs.length := by unfold subW; rw [List.length_drop, List.length_take, subAll_len]; omega
theorem val_cons (x : Nat) (xs : List Nat) : val (x :: xs) = x + 4294967296 * val xs := rfl
theorem mul_swap (B p y : Nat) : p * B * y = B * (p * y) := by rw [Nat.mul_comm p, Nat.mul_assoc]
theorem subW_val {us vs : List Nat} (hu : Rng us) (hv : Rng vs) (h : val vs ≤ val us) : val (subW us vs) = val us - val vs := by
  have hall : val (subAll us vs) = 4294967296 + 4294967296 * val (digs us vs subD (max us.length vs.length)) := by
    unfold subAll
    rw [cout_val, val_cons]
    intro v hv2
    rcases List.mem_cons.1 hv2 with rfl | hv2
    · omega
    · exact digs_sub_lt hu hv _ v hv2
  have hd := val_digs_sub us hv (max us.length vs.length)
  rw [List.take_of_length_le (by omega), List.take_of_length_le (by omega)] at hd
  have hlen := subAll_len us vs
  have hr := subAll_rng us vs
  have hwl := subW_len us vs
  have hwr := subW_rng us vs
  have hlt := val_lt hwr
  rw [hwl] at hlt
  unfold subW at hlt ⊢
  clear hwl hwr
  generalize subAll us vs = ws at *
  generalize hD : val (digs us vs subD (max us.length vs.length)) = D at *
  rcases list_snoc ws with rfl | ⟨ys, y, rfl⟩
  · simp at hlen
  · have e1 : (ys ++ [y]).take ((ys ++ [y]).length - 1) = ys := by simp
    rw [e1] at hlt ⊢
    rw [val_snoc] at hall
    have hy := hr y (by simp)
    cases ys with
    | nil => simp at hlen
    | cons x zs =>
      have hx := hr x (by simp)
      rw [List.drop_succ_cons, List.drop_zero] at hlt ⊢
      have hz : zs.length = max us.length vs.length := by simpa using hlen
      rw [val_cons, List.length_cons, Nat.pow_succ, hz] at hall
      have hul : val us < 4294967296 ^ max us.length vs.length := Nat.lt_of_lt_of_le (val_lt hu) (Nat.pow_le_pow_right (by omega) (by omega))
      generalize 4294967296 ^ max us.length vs.length = p at *
      have h0 : x = 0 := by
        have h2 := mul_swap 4294967296 p y
        omega
      subst h0
      have h3 : val zs + p * y = 1 + D := by
        have h2 := mul_swap 4294967296 p y
        omega
      have h4 : y = 1 := by
        rcases Nat.lt_or_ge y 1 with h | h
        · have : y = 0 := by omega
          subst this; omega
        · rcases Nat.lt_or_ge y 2 with h5 | h5
          · omega
          · have : p * 2 ≤ p * y := Nat.mul_le_mul_left _ h5
            omega
      subst h4
      omega

/-! ### comparison -/
def cmpD (c : Int) (x y : Nat) : Int := if x < y then -1 else if y < x then 1 else c
def cmpRun (us vs : List Nat) (k : Nat) : Int := (List.range k).foldl (fun c j => cmpD c (us.getD j 0) (vs.getD j 0)) 0
theorem cmpRun_succ (us vs : List Nat) (k : Nat) : cmpRun us vs (k + 1) = cmpD (cmpRun us vs k) (us.getD k 0) (vs.getD k 0) := by simp [cmpRun, List.range_succ]
theorem cmpRun_spec {us vs : List Nat} (hu : Rng us) (hv : Rng vs) (k : Nat) : (cmpRun us vs k = -1 ∧ val (us.take k) < val (vs.take k)) ∨ (cmpRun us vs k = 0 ∧ val (us.take k) = val (vs.take k)) ∨ (cmpRun us vs k = 1 ∧ val (vs.take k) < val (us.take k)) := by
  induction k with
  | zero => right; left; simp [cmpRun]
  | succ k ih =>
    have h1 : val (us.take k) < 4294967296 ^ k := Nat.lt_of_lt_of_le (val_lt (hu.take k)) (Nat.pow_le_pow_right (by omega) (by simp; omega))
    have h2 : val (vs.take k) < 4294967296 ^ k := Nat.lt_of_lt_of_le (val_lt (hv.take k)) (Nat.pow_le_pow_right (by omega) (by simp; omega))
    rw [cmpRun_succ, val_take_succ, val_take_succ]
    generalize 4294967296 ^ k = p at *
    generalize us.getD k 0 = x at *
    generalize vs.getD k 0 = y at *
    unfold cmpD
    rcases Nat.lt_trichotomy x y with h | h | h
    · rw [if_pos h]
      left
      have : p * (x + 1) ≤ p * y := Nat.mul_le_mul_left _ h
      rw [Nat.mul_add, Nat.mul_one] at this
      exact ⟨rfl, by omega⟩
    · subst h
      rw [if_neg (by omega), if_neg (by omega)]
      rcases ih with ⟨e, h⟩ | ⟨e, h⟩ | ⟨e, h⟩
      · left; exact ⟨e, by omega⟩
      · right; left; exact ⟨e, by omega⟩
      · right; right; exact ⟨e, by omega⟩
    · rw [if_neg (by omega), if_pos h]
      right; right
      have : p * (y + 1) ≤ p * x := Nat.mul_le_mul_left _ h
      rw [Nat.mul_add, Nat.mul_one] at this
      exact ⟨rfl, by omega⟩
/-- what whole.cmp returns -/
def cmpW (us vs : List Nat) : Int := if us.length = vs.length then cmpRun us vs us.length else (us.length : Int) - (vs.length : Int)
theorem trim_low {us : List Nat} (h : trim us = us) {n : Nat} (hn : us.length = n + 1) : 4294967296 ^ n ≤ val us := by
  rcases list_snoc us with rfl | ⟨ys, y, rfl⟩
  · simp at hn
  · have hy : y ≠ 0 := by
      rintro rfl
      rw [trim_zero] at h
      have := congrArg List.length h
      have := trim_len ys
      simp at *
      omega
    have hl : ys.length = n := by simpa using hn
    rw [val_snoc, hl]
    have : 4294967296 ^ n * 1 ≤ 4294967296 ^ n * y := Nat.mul_le_mul_left _ (by omega)
    omega
theorem len_lt_val {us vs : List Nat} (hu : Rng us) (tv : trim vs = vs) (h : us.length < vs.length) : val us < val vs := by
  obtain ⟨n, hn⟩ : ∃ n, vs.length = n + 1 := ⟨vs.length - 1, by omega⟩
  exact Nat.lt_of_lt_of_le (val_lt hu) (Nat.le_trans (Nat.pow_le_pow_right (by omega) (by omega)) (trim_low tv hn))
theorem cmpW_spec {us vs : List Nat} (hu : Rng us) (hv : Rng vs) (tu : trim us = us) (tv : trim vs = vs) : (cmpW us vs < 0 ∧ val us < val vs) ∨ (cmpW us vs = 0 ∧ val us = val vs) ∨ (0 < cmpW us vs ∧ val vs < val us) := by
  unfold cmpW
  split
  · rename_i h
    have := cmpRun_spec hu hv us.length
    rw [List.take_length, h, List.take_length] at this
    rw [h]
    rcases this with ⟨e, h⟩ | ⟨e, h⟩ | ⟨e, h⟩
    · left; exact ⟨by omega, h⟩
    · right; left; exact ⟨e, h⟩
    · right; right; exact ⟨by omega, h⟩
  · rename_i h
    rcases Nat.lt_or_ge us.length vs.length with h1 | h1
    · left; exact ⟨by omega, len_lt_val hu tv h1⟩
    · right; right; exact ⟨by omega, len_lt_val hv tu (by omega)⟩
theorem cmpW_nonneg {us vs : List Nat} (hu : Rng us) (hv : Rng vs) (tu : trim us = us) (tv : trim vs = vs) : 0 ≤ cmpW us vs ↔ val vs ≤ val us := by
  rcases cmpW_spec hu hv tu tv with ⟨h, k⟩ | ⟨h, k⟩ | ⟨h, k⟩ <;> omega
theorem cmpW_nonpos {us vs : List Nat} (hu : Rng us) (hv : Rng vs) (tu : trim us = us) (tv : trim vs = vs) : cmpW us vs ≤ 0 ↔ val us ≤ val vs := by
  rcases cmpW_spec hu hv tu tv with ⟨h, k⟩ | ⟨h, k⟩ | ⟨h, k⟩ <;> omega
theorem cmpW_bound (us vs : List Nat) : cmpW us vs = -1 ∨ cmpW us vs = 0 ∨ cmpW us vs = 1 ∨ cmpW us vs = (us.length : Int) - (vs.length : Int) := by
  unfold cmpW
  split
  · have h : ∀ k, cmpRun us vs k = -1 ∨ cmpRun us vs k = 0 ∨ cmpRun us vs k = 1 := by
      intro k
      induction k with
      | zero => simp [cmpRun]
      | succ k ih => rw [cmpRun_succ]; unfold cmpD; split; · simp
                     split; · simp
                     exact ih
    rcases h us.length with h | h | h <;> simp [h]
  · simp
end Go.Proofs.Ytnmmgegnioihmaa
namespace Go.Proofs.Ytnmmgegnioihmaa

theorem val_set (os : List Nat) (j v : Nat) (h : j < os.length) : val (os.set j v) + 4294967296 ^ j * os.getD j 0 = val os + 4294967296 ^ j * v := by
  induction os generalizing j with
  | nil => simp at h
  | cons o os ih =>
    cases j with
    | zero => simp [val]; omega
    | succ j =>
      have := ih j (by simpa using h)
      rw [List.set_cons_succ, val_cons, val_cons, List.getD_cons_succ, Nat.pow_succ]
      generalize 4294967296 ^ j = p at *
      have e1 := mul_swap 4294967296 p (os.getD j 0)
      have e2 := mul_swap 4294967296 p v
      generalize p * os.getD j 0 = a at *
      generalize p * v = b at *
      generalize p * 4294967296 * os.getD j 0 = c at *
      generalize p * 4294967296 * v = d at *
      omega
theorem getD_set_ne (os : List Nat) {j k : Nat} (v : Nat) (h : j ≠ k) : (os.set j v).getD k 0 = os.getD k 0 := by
  rw [List.getD_eq_getElem?_getD, List.getD_eq_getElem?_getD, List.getElem?_set_ne h]
theorem getD_set_eq (os : List Nat) {j : Nat} (v : Nat) (h : j < os.length) : (os.set j v).getD j 0 = v := by
  rw [List.getD_eq_getElem?_getD, List.getElem?_set_self h]; rfl
/-- the state of a row: k digits of vs times x have been added at i -/
structure MulIn (O : List Nat) (i x : Nat) (vs : List Nat) (k : Nat) (os : List Nat) (c : Nat) : Prop where
  len : os.length = O.length
  rng : Rng os
  lt : c < 4294967296
  eq : val os + 4294967296 ^ (i + k) * c = val O + 4294967296 ^ i * (x * val (vs.take k))
  rest : ∀ j, i + k ≤ j → os.getD j 0 = O.getD j 0
theorem MulIn.start {O : List Nat} (h : Rng O) (i x : Nat) (vs : List Nat) : MulIn O i x vs 0 O 0 := ⟨rfl, h, by omega, by simp [val], fun _ _ => rfl⟩
theorem mul_digit_lt {c x y o : Nat} (hc : c < 4294967296) (hx : x < 4294967296) (hy : y < 4294967296) (ho : o < 4294967296) : c + (x * y + o) < 18446744073709551616 := by
  have : x * y ≤ 4294967295 * 4294967295 := Nat.mul_le_mul (by omega) (by omega)
  omega
theorem mul_ring {p q B s so c v vO x vk y : Nat} (h1 : v + q * c = vO + p * (x * vk)) (hs : s = c + (x * y + so)) (w : Nat) (hw : w + q * so = v + q * (s % B)) (hB : 0 < B) (B2 : Nat) (hq : ∃ r, q = p * r ∧ B2 = r) : w + q * B * (s / B) = vO + p * (x * (vk + B2 * y)) := by
  obtain ⟨r, rfl, rfl⟩ := hq
  have e1 : p * B2 * B * (s / B) + p * B2 * (s % B) = p * B2 * s := by
    rw [Nat.mul_assoc (p * B2), ← Nat.mul_add]; congr 1; exact Nat.div_add_mod s B
  have e2 : p * B2 * s = p * B2 * c + p * B2 * (x * y) + p * B2 * so := by rw [hs, Nat.mul_add, Nat.mul_add, Nat.add_assoc]
  have e3 : p * (x * (vk + B2 * y)) = p * (x * vk) + p * B2 * (x * y) := by
    rw [Nat.mul_add, Nat.mul_add, Nat.mul_assoc p B2, Nat.mul_left_comm x B2 y]
  rw [e3]
  generalize p * B2 * so = a1 at *
  generalize p * B2 * (x * y) = a2 at *
  generalize p * (x * vk) = a3 at *
  generalize p * B2 * c = a4 at *
  generalize p * B2 * s = a5 at *
  generalize p * B2 * (s % B) = a6 at *
  generalize p * B2 * B * (s / B) = a7 at *
  omega
theorem MulIn.step {O vs os : List Nat} {i x k c : Nat} (h : MulIn O i x vs k os c) (hx : x < 4294967296) (hv : Rng vs) (hk : k < vs.length) (hl : i + k < O.length) :
    MulIn O i x vs (k + 1) (os.set (i + k) ((c + (x * vs.getD k 0 + os.getD (i + k) 0)) % 4294967296)) ((c + (x * vs.getD k 0 + os.getD (i + k) 0)) / 4294967296) := by
  have hlt := mul_digit_lt h.lt hx (hv.getD k) (h.rng.getD (i + k))
  have hl2 : i + k < os.length := by rw [h.len]; exact hl
  refine ⟨by simp [h.len], h.rng.set _ (Nat.mod_lt _ (by omega)), ?_, ?_, fun j hj => ?_⟩
  · generalize c + (x * vs.getD k 0 + os.getD (i + k) 0) = s at *
    omega
  · rw [val_take_succ, show i + (k + 1) = (i + k) + 1 from rfl, Nat.pow_succ 4294967296 (i + k)]
    exact mul_ring h.eq rfl _ (val_set os (i + k) _ hl2) (by omega) _ ⟨4294967296 ^ k, Nat.pow_add .., rfl⟩
  · rw [getD_set_ne _ _ (by omega)]; exact h.rest j (by omega)
/-- the state of the product: i digits of us are done -/
structure MulOut (us vs : List Nat) (i : Nat) (os : List Nat) : Prop where
  len : os.length = us.length + vs.length
  rng : Rng os
  eq : val os = val (us.take i) * val vs
  rest : ∀ j, i + vs.length ≤ j → os.getD j 0 = 0
theorem MulOut.start (us vs : List Nat) : MulOut us vs 0 (List.replicate (us.length + vs.length) 0) := by
  refine ⟨by simp, Rng.replicate _, by simp [val, val_replicate], fun j _ => ?_⟩
  rw [List.getD_eq_getElem?_getD, List.getElem?_replicate]
  split <;> rfl
theorem MulOut.step {us vs O os : List Nat} {i c : Nat} (h : MulOut us vs i O) (hi : i < us.length) (hin : MulIn O i (us.getD i 0) vs vs.length os c) : MulOut us vs (i + 1) (os.set (i + vs.length) c) := by
  have hl : i + vs.length < os.length := by rw [hin.len, h.len]; omega
  refine ⟨by rw [List.length_set, hin.len, h.len], hin.rng.set _ hin.lt, ?_, fun j hj => ?_⟩
  · have h1 := hin.eq
    have h2 := val_set os (i + vs.length) c hl
    rw [hin.rest _ (Nat.le_refl _), h.rest _ (Nat.le_refl _), Nat.mul_zero, Nat.add_zero] at h2
    rw [h2, h1, h.eq, List.take_length, val_take_succ, Nat.add_mul]
    congr 1
    rw [Nat.mul_assoc]
  · rw [getD_set_ne _ _ (by omega), hin.rest j (by omega)]; exact h.rest j (by omega)
theorem MulOut.final {us vs os : List Nat} (h : MulOut us vs us.length os) : val os = val us * val vs := by rw [h.eq, List.take_length]
end Go.Proofs.Ytnmmgegnioihmaa
namespace Go.Proofs.Ytnmmgegnioihmaa

theorem val_drop (us : List Nat) {j : Nat} (h : j < us.length) : val (us.drop j) = us.getD j 0 + 4294967296 * val (us.drop (j + 1)) := by
  rw [List.drop_eq_getElem_cons h, val_cons, List.getD_eq_getElem?_getD, List.getElem?_eq_getElem h]; rfl
theorem drop_set_ge (qs : List Nat) {j k : Nat} (v : Nat) (h : j < k) : (qs.set j v).drop k = qs.drop k := List.drop_set_of_lt h
/-- k words from the top are done: the quotient's words qs, the remainder r -/
structure Small (us : List Nat) (n k : Nat) (qs : List Nat) (r : Nat) : Prop where
  len : qs.length = us.length
  rng : Rng qs
  lt : r < n
  eq : val (us.drop (us.length - k)) = val (qs.drop (us.length - k)) * n + r
theorem Small.start (us : List Nat) {n : Nat} (hn : 0 < n) : Small us n 0 (List.replicate us.length 0) 0 :=
  ⟨by simp, Rng.replicate _, hn, by simp [val]⟩
theorem small_ring {u B a b n r q r2 : Nat} (h : a = b * n + r) (h2 : r * B + u = q * n + r2) : u + B * a = (q + B * b) * n + r2 := by
  subst h
  have e1 : B * (b * n + r) = B * b * n + r * B := by rw [Nat.mul_add, Nat.mul_assoc, Nat.mul_comm r]
  rw [e1, Nat.add_mul]
  omega
theorem Small.step {us qs : List Nat} {n k r : Nat} (h : Small us n k qs r) (hu : Rng us) (hk : k < us.length) :
    Small us n (k + 1) (qs.set (us.length - 1 - k) (((r * 4294967296 + us.getD (us.length - 1 - k) 0) / n) % 4294967296)) ((r * 4294967296 + us.getD (us.length - 1 - k) 0) % n) := by
  have hd1 : us.length - (k + 1) = us.length - 1 - k := by omega
  have hd2 : us.length - 1 - k + 1 = us.length - k := by omega
  have hlt := hu.getD (us.length - 1 - k)
  have hr := h.lt
  have hq : (r * 4294967296 + us.getD (us.length - 1 - k) 0) / n < 4294967296 := by
    rw [Nat.div_lt_iff_lt_mul (by omega)]
    have : (r + 1) * 4294967296 ≤ n * 4294967296 := Nat.mul_le_mul_right _ hr
    rw [Nat.mul_comm 4294967296 n]
    omega
  refine ⟨by simp [h.len], h.rng.set _ (Nat.mod_lt _ (by omega)), Nat.mod_lt _ (by omega), ?_⟩
  rw [hd1, val_drop us (show us.length - 1 - k < us.length by omega), hd2, val_drop (qs.set _ _) (show us.length - 1 - k < (qs.set _ _).length by rw [List.length_set, h.len]; omega), getD_set_eq _ _ (by rw [h.len]; omega), drop_set_ge _ _ (by omega), hd2, Nat.mod_eq_of_lt hq]
  refine small_ring h.eq ?_
  rw [Nat.mul_comm (_ / n) n]
  exact (Nat.div_add_mod _ n).symm
theorem Small.digit {us qs : List Nat} {n k r u : Nat} (h : Small us n k qs r) (hu : u < 4294967296) : (r * 4294967296 + u) / n < 4294967296 ∧ r * 4294967296 + u < n * 4294967296 := by
  have hr := h.lt
  have : (r + 1) * 4294967296 ≤ n * 4294967296 := Nat.mul_le_mul_right _ hr
  refine ⟨?_, by omega⟩
  rw [Nat.div_lt_iff_lt_mul (by omega)]
  rw [Nat.mul_comm 4294967296 n]
  omega
/-- a binary search for t / v -/
structure Half (t v lo hi : Nat) : Prop where
  low : v * lo ≤ t
  high : t < v * hi
theorem Half.le {t v lo hi : Nat} (h : Half t v lo hi) : lo < hi := by
  rcases Nat.lt_or_ge lo hi with h1 | h1
  · exact h1
  · have := Nat.mul_le_mul_left v h1
    have := h.low
    have := h.high
    omega
theorem Half.final {t v lo hi : Nat} (h : Half t v lo hi) (h1 : hi - lo ≤ 1) : lo = t / v := by
  have h2 := h.le
  have h3 : hi = lo + 1 := by omega
  subst h3
  have h4 := h.low
  have h5 := h.high
  have hv : 0 < v := by rcases Nat.eq_zero_or_pos v with rfl | hv; · simp at h5
                        · exact hv
  refine Nat.le_antisymm ?_ ?_
  · rw [Nat.le_div_iff_mul_le hv, Nat.mul_comm]; exact h4
  · have : t / v < lo + 1 := by rw [Nat.div_lt_iff_lt_mul hv, Nat.mul_comm]; exact h5
    omega
theorem Small.final {us qs : List Nat} {n r : Nat} (h : Small us n us.length qs r) : val us = val qs * n + r := by
  have := h.eq
  rwa [Nat.sub_self, List.drop_zero, List.drop_zero] at this
theorem Small.quot {us qs : List Nat} {n r : Nat} (h : Small us n us.length qs r) : val qs = val us / n := by
  rw [h.final, Nat.mul_comm, Nat.mul_add_div (by have := h.lt; omega), Nat.div_eq_of_lt h.lt, Nat.add_zero]
theorem Small.rem {us qs : List Nat} {n r : Nat} (h : Small us n us.length qs r) : r = val us % n := by
  rw [h.final, Nat.mul_comm, Nat.mul_add_mod, Nat.mod_eq_of_lt h.lt]
end Go.Proofs.Ytnmmgegnioihmaa
