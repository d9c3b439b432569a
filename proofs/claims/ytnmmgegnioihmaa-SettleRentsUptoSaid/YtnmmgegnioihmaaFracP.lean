/- Plain numbers: the bounds of a sum, a difference, a product of rationals. No program in sight. -/
import Derived.Test.YtnmmgegnioihmaaFrac1
set_option linter.unusedVariables false
set_option linter.unusedSimpArgs false
namespace Go.Proofs.Ytnmmgegnioihmaa

structure LeastOk (n d : Int) (x : Rat) (B : Nat) : Prop where
  pos : 0 < d
  val : Rat.divInt n d = x
  S : (canQ x).S ≤ B
  ln : (canZ n).ws.length ≤ B
  ld : (canZ d).ws.length ≤ B
theorem least_ok {n d : Int} {x : Rat} {k : Nat} (hd : 0 < d) (hv : Rat.divInt n d = x) (h1 : n.natAbs < 4294967296 ^ k) (h2 : d.natAbs < 4294967296 ^ k) : LeastOk n d x (k + 1) :=
  ⟨hd, hv, by rw [← hv]; exact canQ_S_divInt (by omega) h1 h2, Nat.le_succ_of_le (canZ_len h1), Nat.le_succ_of_le (canZ_len h2)⟩
theorem Parts.n_lt {q p : Qr} (h : Parts q p) (ok : q.Ok) : p.n.val.natAbs < 4294967296 ^ (q.S - 1) := by
  have := Qr.num_lt ok
  rcases h.sg with ⟨h1, _⟩ | ⟨h1, _⟩ <;> rw [h1]
  · exact this
  · rwa [Int.natAbs_neg]
theorem Parts.d_le {q p : Qr} (h : Parts q p) (ok : q.Ok) : p.d.val.natAbs ≤ 4294967296 ^ (q.S - 1) := by
  have := Qr.dv_le ok
  rcases h.sg with ⟨_, h1⟩ | ⟨_, h1⟩ <;> rw [h1]
  · exact this
  · rwa [Int.natAbs_neg]
theorem S_pos (q : Qr) : 1 ≤ q.S := by unfold Qr.S; omega
theorem pow_two_lt (x y : Nat) : 2 * (4294967296 ^ x * 4294967296 ^ y) ≤ 4294967296 ^ (x + y + 1) := by
  rw [Nat.pow_succ, Nat.pow_add, Nat.mul_comm]
  exact Nat.mul_le_mul_left _ (by omega)
theorem sum_natAbs {n1 d1 n2 d2 : Int} {P Q : Nat} (h1 : n1.natAbs < P) (h2 : d1.natAbs ≤ P) (h3 : n2.natAbs < Q) (h4 : d2.natAbs ≤ Q) : (n1 * d2).natAbs < P * Q ∧ (n2 * d1).natAbs < P * Q ∧ (d1 * d2).natAbs ≤ P * Q ∧ (n1 * n2).natAbs < P * Q := by
  rw [Int.natAbs_mul, Int.natAbs_mul, Int.natAbs_mul, Int.natAbs_mul]
  refine ⟨?_, ?_, Nat.mul_le_mul h2 h4, Nat.mul_lt_mul'' h1 h3⟩
  · exact Nat.lt_of_le_of_lt (Nat.mul_le_mul_left _ h4) (Nat.mul_lt_mul_of_pos_right h1 (by omega))
  · rw [Nat.mul_comm P Q]
    exact Nat.lt_of_le_of_lt (Nat.mul_le_mul_left _ h2) (Nat.mul_lt_mul_of_pos_right h3 (by omega))
section
variable {a b p q : Qr}
theorem parts_bounds (hp : Parts a p) (hq : Parts b q) (ka : a.Ok) (kb : b.Ok) : ∃ M : Nat, 2 * M ≤ 4294967296 ^ (a.S + b.S - 1) ∧ (p.n.val * q.d.val).natAbs < M ∧ (q.n.val * p.d.val).natAbs < M ∧ (p.d.val * q.d.val).natAbs ≤ M ∧ (p.n.val * q.n.val).natAbs < M := by
  have h := sum_natAbs (hp.n_lt ka) (hp.d_le ka) (hq.n_lt kb) (hq.d_le kb)
  refine ⟨_, ?_, h⟩
  have h1 := S_pos a
  have h2 := S_pos b
  have := pow_two_lt (a.S - 1) (b.S - 1)
  rwa [show a.S - 1 + (b.S - 1) + 1 = a.S + b.S - 1 by omega] at this
theorem add_ok (hp : Parts a p) (hq : Parts b q) (ka : a.Ok) (kb : b.Ok) : LeastOk (p.n.val * q.d.val + q.n.val * p.d.val) (p.d.val * q.d.val) (a.val + b.val) (a.S + b.S) := by
  obtain ⟨M, hM, h1, h2, h3, h4⟩ := parts_bounds hp hq ka kb
  have hs : a.S + b.S = a.S + b.S - 1 + 1 := by have := S_pos a; omega
  rw [hs]
  have hb := Int.natAbs_add_le (p.n.val * q.d.val) (q.n.val * p.d.val)
  refine least_ok (Int.mul_pos hp.pos hq.pos) ?_ (by omega) (by omega)
  rw [← hp.val, ← hq.val, Rat.divInt_add_divInt _ _ (by have := hp.pos; omega) (by have := hq.pos; omega)]
theorem sub_ok (hp : Parts a p) (hq : Parts b q) (ka : a.Ok) (kb : b.Ok) : LeastOk (p.n.val * q.d.val - q.n.val * p.d.val) (p.d.val * q.d.val) (a.val - b.val) (a.S + b.S) := by
  obtain ⟨M, hM, h1, h2, h3, h4⟩ := parts_bounds hp hq ka kb
  have hs : a.S + b.S = a.S + b.S - 1 + 1 := by have := S_pos a; omega
  rw [hs]
  refine least_ok (Int.mul_pos hp.pos hq.pos) ?_ (by omega) (by omega)
  rw [← hp.val, ← hq.val, Rat.divInt_sub_divInt _ _ (by have := hp.pos; omega) (by have := hq.pos; omega)]
theorem mul_ok (hp : Parts a p) (hq : Parts b q) (ka : a.Ok) (kb : b.Ok) : LeastOk (p.n.val * q.n.val) (p.d.val * q.d.val) (a.val * b.val) (a.S + b.S) := by
  obtain ⟨M, hM, h1, h2, h3, h4⟩ := parts_bounds hp hq ka kb
  have hs : a.S + b.S = a.S + b.S - 1 + 1 := by have := S_pos a; omega
  rw [hs]
  refine least_ok (Int.mul_pos hp.pos hq.pos) ?_ (by omega) (by omega)
  rw [← hp.val, ← hq.val, Rat.divInt_mul_divInt]
theorem can_ok (hp : Parts a p) (ka : a.Ok) : (canQ a.val).S ≤ a.S + 1 := by
  rw [← hp.val]
  have h1 := hp.n_lt ka
  have h2 := hp.d_le ka
  have hs := S_pos a
  have h3 : 4294967296 ^ (a.S - 1) < 4294967296 ^ a.S := Nat.pow_lt_pow_right (by omega) (by omega)
  exact canQ_S_divInt (by have := hp.pos; omega) (Nat.lt_trans h1 h3) (Nat.lt_of_le_of_lt h2 h3)
end
end Go.Proofs.Ytnmmgegnioihmaa
