/- Package whole: division by a small number. -/
import Derived.Test.YtnmmgegnioihmaaMul
import Derived.Test.YtnmmgegnioihmaaDivP
import Derived.RegionTactic
import Derived.ChangeAlike
set_option linter.unusedVariables false
set_option linter.unusedSimpArgs false
namespace Go.Proofs.Ytnmmgegnioihmaa
open Go.RowKit

theorem small_wraps {r u n : Nat} (hr : r < n) (hn : n ≤ 4294967296) (hu : u < 4294967296) : IntKind.u64.wrap ((r : Int) * 4294967296) = (r : Int) * 4294967296 ∧ IntKind.u64.wrap ((r : Int) * 4294967296 + (u : Int)) = ((r * 4294967296 + u : Nat) : Int) := by
  simp only [IntKind.wrap]; simp [IntKind.bits, IntKind.signed]
  refine ⟨?_, ?_⟩ <;> omega
theorem small_q {r u n : Nat} (hr : r < n) (hu : u < 4294967296) : IntKind.u64.wrap (((r * 4294967296 + u : Nat) : Int) / (n : Int)) = ((r * 4294967296 + u : Nat) : Int) / (n : Int) := by
  have h1 : (r * 4294967296 + u) / n < 4294967296 := by
    rw [Nat.div_lt_iff_lt_mul (by omega)]
    have : (r + 1) * 4294967296 ≤ n * 4294967296 := Nat.mul_le_mul_right _ hr
    rw [Nat.mul_comm 4294967296 n]
    omega
  generalize r * 4294967296 + u = s at *
  have e : (((s / n : Nat) : Nat) : Int) = (s : Int) / (n : Int) := by simp
  rw [← e]
  generalize s / n = q at *
  simp only [IntKind.wrap]; simp [IntKind.bits, IntKind.signed]
  omega
set_option maxHeartbeats 2000000 in
theorem whole_small_calls (va : Value) (us : List Nat) (n : Nat) (w : World) (ha : IsW w va us) (h0 : 0 < n) (hn : n ≤ 4294967296) (hlen : us.length ≤ 35184372088832) :
    Calls Try.prog 158 #[va, .int .u64 (n : Int)] w fun e w' => ∃ qs v, Hid (qs = wordsOf (val us / n)) ∧ e = .returned (.tuple #[v, .int .u64 ((val us % n : Nat) : Int)]) ∧ NW w.heap.size w' v qs ∧ Below w.heap.size w w' := by
  obtain ⟨ru, A, ca, rfl, hra⟩ := ha
  have hmx : us.length ≤ 9223372036854775807 := by omega
  have HL := Lib.hid hlen
  have HNn := Lib.hid hn
  clear hlen
  obtain ⟨i0, hi, hz0, hz1, hz2⟩ := info_parts info_u32
  go_enter Try.func158, Try.ntmps158
  go_wp2_with (at_make; refine wpList_make_full _ rfl _ _ 39 rfl w.heap.size 100 i0 (.int .u32 0) 1 und_words hi hz0 hz1 .i64 .i64 _ _ us.length rfl rfl rfl rfl (by rw [hz2]; have := HL.out; omega) (by unfold maxLen; omega) (Nat.le_refl _) ?_; intro w1 hown hg)
  rw [madeCells_u32] at hown
  have hO : Own32 w w1 w.heap.size us.length (List.replicate us.length 0) := ⟨hown, (Below.refl _ _).grown hg (Nat.le_refl _) (fun k e => by cases e), Nat.le_refl _⟩
  clear hown hg hi hz0 hz1 hz2 i0
  go_loopw [5, 13] (fun r i wr => ∃ k rr : Nat, k ≤ us.length ∧ i = .int .i64 k ∧ r = .int .u64 rr ∧ ∃ qs, Hid (Small us n k qs rr) ∧ Own32 w wr w.heap.size us.length qs) (fun _ i _ => us.length - (intOf i).toNat)
  case atStart => exact ⟨0, 0, Nat.zero_le _, rfl, rfl, _, Small.start us h0, hO⟩
  case round =>
    obtain ⟨k, rr, hk, rfl, rfl, qs, HS, hqs⟩ := hrel
    clear hO
    by_cases hlt : k < us.length
    · obtain ⟨j, hj⟩ : ∃ j, j = us.length - 1 - k := ⟨_, rfl⟩
      have hj1 : j < us.length := by omega
      have hj2 : (us.length : Int) - 1 - (k : Int) = (j : Int) := by omega
      obtain ⟨ba, oa, rfl, hca⟩ := row_at (hra.below hqs.2.1) hj1
      unfold encW at hca
      have hst := HS.out.step ru hlt
      rw [← hj] at hst
      have hu := ru.getD j
      have hcell := hqs.cell (j := j) (by rw [HS.out.len]; exact hj1)
      have hfr := hqs.frozen j
      have hrr := HS.out.lt
      generalize us.getD j 0 = u at *
      generalize qs.getD j 0 = o at *
      obtain ⟨e1, e2⟩ := small_wraps hrr hn hu
      have e3 := small_q hrr hu
      have HST := Lib.hid hst
      have HJ := Lib.hid hj
      clear hst hj
      generalize rr * 4294967296 + u = s at *
      go_wp2
      go_region
      all_goals go_wp2
      go_roundw
      case rel => exact ⟨k + 1, s % n, by omega, by simp, by simp, _, HST.out, by simpa using (hqs.set j (s / n)).drew⟩
      case measure => simp [intOf]; omega
    · obtain rfl : k = us.length := by omega
      have hl : qs.length = us.length := HS.out.len
      have hW := hqs.NW HS.out.rng
      obtain ⟨rq, A', c', e, hN⟩ := hW
      rw [hl] at e
      injection e with e1 e2 e3
      subst e1; subst e3
      have ht := trim_at _ _ _ _ hN.toRow
      rw [hl] at ht
      have hr : ((rr : Nat) : Int) = ((val us % n : Nat) : Int) := by rw [HS.out.rem]
      have hq : trim qs = wordsOf (val us / n) := by rw [trim_eq rq, HS.out.quot]
      have HR := Lib.hid hr
      have HQ := Lib.hid hq
      clear hl hr hq e2
      go_wp2_with (go_at_call 144; refine ht.mono ?_; rintro e w' ⟨rfl, rfl⟩)
      go_ret2
      refine ⟨trim qs, _, HQ.out, by rw [HR.out]; rfl, ?_, hqs.2.1⟩
      obtain ⟨k, hk, e⟩ := trim_prefix qs
      exact ⟨by rw [e]; exact rq.take k, _, _, rfl, by rw [e]; exact hN.take k⟩
end Go.Proofs.Ytnmmgegnioihmaa
