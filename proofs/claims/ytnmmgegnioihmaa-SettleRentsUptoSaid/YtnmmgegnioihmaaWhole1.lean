/- The walks of package whole, part 1. -/
import Derived.Test.YtnmmgegnioihmaaBase
set_option linter.unusedVariables false
set_option linter.unusedSimpArgs false
namespace Go.Proofs.Ytnmmgegnioihmaa
open Go.RowKit

theorem trim_take_last {xs : List Nat} {m : Nat} (h : m < xs.length) (h0 : xs.getD m 0 = 0) : trim (xs.take (m + 1)) = trim (xs.take m) := by
  rw [List.take_succ_eq_append_getElem h]
  rw [List.getD_eq_getElem?_getD, List.getElem?_eq_getElem h] at h0
  simp only [Option.getD_some] at h0
  rw [h0, trim_zero]
theorem trim_take_stop {xs : List Nat} {m : Nat} (h : m < xs.length) (h0 : xs.getD m 0 ≠ 0) : trim (xs.take (m + 1)) = xs.take (m + 1) := by
  rw [List.take_succ_eq_append_getElem h]
  rw [List.getD_eq_getElem?_getD, List.getElem?_eq_getElem h] at h0
  simp only [Option.getD_some] at h0
  rw [trim_snoc _ h0]
/-- the length in a slot: for a loop's measure -/
def lenOf : Value → Nat | .slice _ n _ => n | _ => 0
set_option maxHeartbeats 400000 in
theorem trim_at (A : Option Addr) (c : Nat) (xs : List Nat) (w : World) (h : Row encW w A c xs) :
    Calls Try.prog 144 #[.slice A xs.length c] w fun e w' => e = .returned (.slice A (trim xs).length c) ∧ w = w' := by
  have hle := h.le
  have hc := h.mx
  unfold maxLen at hc
  go_enter Try.func144, Try.ntmps144
  go_wp2
  go_loop [0] (fun v => ∃ k : Nat, k ≤ xs.length ∧ v = .slice A k c ∧ trim (xs.take k) = trim xs) (fun v => lenOf v)
  case atStart => exact ⟨xs.length, Nat.le_refl _, rfl, by rw [List.take_length]⟩
  case round =>
    obtain ⟨k, hk, rfl, ht⟩ := hrel
    have HT := Lib.hid ht
    clear ht
    cases k with
    | zero =>
      go_wp2
      go_ret
      exact ⟨by rw [← HT.out]; simp [trim_nil], rfl⟩
    | succ m =>
      obtain ⟨b, off, rfl, hcell⟩ := h.rd (by rintro rfl; simp at hk)
      have hx := hcell m (xs.getD m 0) (by rw [List.getD_eq_getElem?_getD, List.getElem?_eq_getElem (by omega)]; rfl)
      unfold encW at hx
      by_cases h0 : xs.getD m 0 = 0
      · have H0 := trim_take_last (by omega) h0
        have b0 : (((xs[m]?.getD 0 : Nat) : Int) == 0) = true := by rw [← List.getD_eq_getElem?_getD, h0]; rfl
        have H1 := Lib.hid H0
        clear h0 H0
        go_wp2
        go_round
        case rel => exact ⟨m, by omega, rfl, by rw [← H1.out]; exact HT.out⟩
        case measure => simp [lenOf]
      · have H0 := trim_take_stop (by omega) h0
        have b0 : (((xs[m]?.getD 0 : Nat) : Int) == 0) = false := by rw [← List.getD_eq_getElem?_getD, beq_eq_false_iff_ne]; omega
        have H1 := Lib.hid H0
        clear h0 H0
        go_wp2
        go_ret
        refine ⟨?_, rfl⟩
        have := H1.out
        rw [HT.out] at this
        rw [this]; simp; omega

set_option maxHeartbeats 400000 in
theorem made_at (neg : Bool) (A : Option Addr) (c : Nat) (xs : List Nat) (w : World) (h : Row encW w A c xs) :
    Calls Try.prog 141 #[.bool neg, .slice A xs.length c] w fun e w' => e = .returned (.agg #[.bool (neg && decide (0 < (trim xs).length)), .slice A (trim xs).length c]) ∧ Below w.heap.size w w' := by
  have hc := h.mx
  unfold maxLen at hc
  have hl := trim_len xs
  have hle := h.le
  generalize hn : (trim xs).length = n at *
  have HN := Lib.hid hn
  clear hn
  go_enter Try.func141, Try.ntmps141
  cases neg
  all_goals
    go_wp2_with (go_at_call 144; refine (trim_at _ _ _ _ (h.below ((Below.refl _ _).alloc (Nat.le_refl _) _))).mono ?_; rintro e w' ⟨rfl, rfl⟩; rw [HN.out])
    refine bodyPost_ret (v := .agg #[.bool _, .slice A n c]) (by simp [results, Try.results141, go_sem]; rfl) rfl ⟨by simp, ?_⟩
    exact (Below.refl _ _).alloc (Nat.le_refl _) _

theorem made_NZ {n0 : Nat} {w : World} {A : Option Addr} {c : Nat} {xs : List Nat} (b : Bool) (hr : Rng xs) (h : NRow encW n0 w A c xs) {i : Int} (hi : (if b then -(val xs : Int) else (val xs : Int)) = i) :
    NZ n0 w (.agg #[.bool (b && decide (0 < (trim xs).length)), .slice A (trim xs).length c]) (canZ i) := by
  subst hi
  rw [← made_eq b xs hr]
  obtain ⟨k, hk, e⟩ := trim_prefix xs
  refine ⟨_, rfl, ?_, A, c, rfl, ?_⟩
  · dsimp only; rw [e]; exact hr.take k
  · dsimp only; rw [e]; exact h.take k
theorem made_IsZ {w : World} {A : Option Addr} {c : Nat} {xs : List Nat} (b : Bool) (hr : Rng xs) (h : Row encW w A c xs) {i : Int} (hi : (if b then -(val xs : Int) else (val xs : Int)) = i) :
    IsZ w (.agg #[.bool (b && decide (0 < (trim xs).length)), .slice A (trim xs).length c]) (canZ i) := by
  subst hi
  rw [← made_eq b xs hr]
  obtain ⟨k, hk, e⟩ := trim_prefix xs
  refine ⟨_, rfl, ?_, A, c, rfl, ?_⟩
  · dsimp only; rw [e]; exact hr.take k
  · dsimp only; rw [e]; exact h.take k
end Go.Proofs.Ytnmmgegnioihmaa
