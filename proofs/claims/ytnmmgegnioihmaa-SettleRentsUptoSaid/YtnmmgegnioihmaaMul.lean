/- Package whole: the product of two magnitudes. -/
import Derived.Test.YtnmmgegnioihmaaCmp
import Derived.Test.YtnmmgegnioihmaaMulP
set_option linter.unusedVariables false
set_option linter.unusedSimpArgs false
namespace Go.Proofs.Ytnmmgegnioihmaa
open Go.RowKit

theorem madeCells_u32 (n : Nat) : (madeCells (Value.int .u32 0).cells (n * 1)).toList = (List.replicate n 0).map encW := by
  rw [Nat.mul_one]
  apply List.ext_getElem
  · simp [madeCells]
  · intro i h1 h2
    simp [madeCells, Value.cells, encW, Nat.mod_one]
/-- the words of a row of the call's own, at g -/
def Own32 (w0 w : World) (g n : Nat) (os : List Nat) : Prop := w.ownsRow w0.heap.size 100 1 (.slice (some ⟨g, 0, none⟩) n n) n (os.map encW) ∧ Below w0.heap.size w0 w ∧ w0.heap.size ≤ g
theorem Own32.cell {w0 w : World} {g n : Nat} {os : List Nat} (h : Own32 w0 w g n os) {j : Nat} (hj : j < os.length) : w.cell? ⟨g, j, none⟩ = some (.int .u32 ((os.getD j 0 : Nat) : Int)) := by
  have hl : os.length = n := by have := h.1.1; simpa using this
  rw [h.1.cellAt j (by omega), List.getElem?_map, List.getElem?_eq_getElem hj, List.getD_eq_getElem?_getD, List.getElem?_eq_getElem hj]
  rfl
theorem Own32.frozen {w0 w : World} {g n : Nat} {os : List Nat} (h : Own32 w0 w g n os) (j : Nat) : w.frozen? ⟨g, j, none⟩ = false := h.1.frozenAt j
theorem Own32.set {w0 w : World} {g n : Nat} {os : List Nat} (h : Own32 w0 w g n os) (j s : Nat) : Own32 w0 (w.setCell ⟨g, j, none⟩ (.int .u32 ((s : Int) % 4294967296))) g n (os.set j (s % 4294967296)) := by
  refine ⟨?_, h.2.1.setCell h.2.2 _, h.2.2⟩
  have h1 := (h.1.stored j (.int .u32 ((s : Int) % 4294967296))).1
  have e : (os.map encW).set j (.int .u32 ((s : Int) % 4294967296)) = (os.set j (s % 4294967296)).map encW := by rw [List.map_set]; simp [encW]
  rwa [e] at h1
theorem Own32.drew {w0 w : World} {g n : Nat} {os : List Nat} (h : Own32 w0 w g n os) : Own32 w0 w.drew g n os := ⟨h.1, h.2.1.drew, h.2.2⟩
theorem Own32.NW {w0 w : World} {g n : Nat} {os : List Nat} (h : Own32 w0 w g n os) (hr : Rng os) : NW w0.heap.size w (.slice (some ⟨g, 0, none⟩) n n) os := by
  obtain ⟨A, c, e, hl, hN⟩ := NRow.of_own h.1
  exact ⟨hr, A, c, e, hN⟩
theorem mul_wraps {x y o c : Nat} (hx : x < 4294967296) (hy : y < 4294967296) (ho : o < 4294967296) (hc : c < 4294967296) :
    IntKind.u64.wrap ((x : Int) * (y : Int)) = (x : Int) * (y : Int) ∧ IntKind.u64.wrap ((x : Int) * (y : Int) + (o : Int)) = (x : Int) * (y : Int) + (o : Int) ∧
      IntKind.u64.wrap ((c : Int) + ((x : Int) * (y : Int) + (o : Int))) = ((c + (x * y + o) : Nat) : Int) := by
  have h := mul_digit_lt hc hx hy ho
  have e : ((x * y : Nat) : Int) = (x : Int) * (y : Int) := by simp
  have h0 : x * y < 18446744073709551616 := by omega
  rw [← e]
  generalize x * y = p at *
  simp only [IntKind.wrap]; simp [IntKind.bits, IntKind.signed]
  refine ⟨?_, ?_, ?_⟩ <;> omega
set_option maxHeartbeats 2000000 in
theorem whole_mul_calls (va vb : Value) (us vs : List Nat) (w : World) (ha : IsW w va us) (hb : IsW w vb vs) (hlen : us.length + vs.length ≤ 35184372088832) :
    Calls Try.prog 143 #[va, vb] w fun e w' => ∃ os v, Hid (MulOut us vs us.length os) ∧ e = .returned v ∧ NW w.heap.size w' v os ∧ Below w.heap.size w w' := by
  obtain ⟨ru, A, ca, rfl, hra⟩ := ha
  obtain ⟨rv, B, cb, rfl, hrb⟩ := hb
  have hmx : us.length + vs.length ≤ 9223372036854775807 := by omega
  have HL := Lib.hid hlen
  clear hlen
  obtain ⟨i0, hi, hz0, hz1, hz2⟩ := info_parts info_u32
  go_enter Try.func143, Try.ntmps143
  go_wp2_with (at_make; refine wpList_make_full _ rfl _ _ 39 rfl w.heap.size 100 i0 (.int .u32 0) 1 und_words hi hz0 hz1 .i64 .i64 _ _ (us.length + vs.length) rfl rfl (by simp) (by simp) (by rw [hz2]; have := HL.out; omega) (by unfold maxLen; omega) (Nat.le_refl _) ?_; intro w1 hown hg)
  rw [madeCells_u32] at hown
  have hO : Own32 w w1 w.heap.size (us.length + vs.length) (List.replicate (us.length + vs.length) 0) := ⟨hown, (Below.refl _ _).grown hg (Nat.le_refl _) (fun k e => by cases e), Nat.le_refl _⟩
  clear hown hg hi hz0 hz1 hz2 i0
  go_loopw [19] (fun i wr => ∃ k : Nat, k ≤ us.length ∧ i = .int .i64 k ∧ ∃ os, Hid (MulOut us vs k os) ∧ Own32 w wr w.heap.size (us.length + vs.length) os) (fun i _ => us.length - (intOf i).toNat)
  case atStart => exact ⟨0, Nat.zero_le _, rfl, _, MulOut.start us vs, hO⟩
  case round =>
    obtain ⟨k, hk, rfl, os, HM, hos⟩ := hrel
    clear hO
    by_cases hlt : k < us.length
    · obtain ⟨ba, oa, rfl, hca⟩ := row_at (hra.below hos.2.1) hlt
      unfold encW at hca
      have hx := ru.getD k
      obtain ⟨x, hxe⟩ : ∃ x, x = us.getD k 0 := ⟨_, rfl⟩
      have HX := Lib.hid hxe
      rw [← hxe] at hx hca
      clear hxe
      go_wp2
      obtain ⟨wo, rfl⟩ : ∃ wo : World, wo = wr := ⟨_, rfl⟩
      go_loopw [8, 26] (fun c j wi => ∃ m cc : Nat, m ≤ vs.length ∧ j = .int .i64 m ∧ c = .int .u64 cc ∧ ∃ oi, Hid (MulIn os k x vs m oi cc) ∧ Own32 w wi w.heap.size (us.length + vs.length) oi) (fun _ j _ => vs.length - (intOf j).toNat)
      case atStart => exact ⟨0, 0, Nat.zero_le _, rfl, rfl, os, MulIn.start HM.out.rng _ _ _, hos⟩
      case round =>
        obtain ⟨m, cc, hm, rfl, rfl, oi, HI, hoi⟩ := hrel
        clear hos
        have hol : k + vs.length < oi.length := by have := HI.out.len; have := HM.out.len; omega
        by_cases hlm : m < vs.length
        · obtain ⟨bb, ob, rfl, hcb⟩ := row_at (hrb.below hoi.2.1) hlm
          unfold encW at hcb
          have hy := rv.getD m
          have ho := HI.out.rng.getD (k + m)
          have hco := hoi.cell (j := k + m) (by omega)
          have hfo := hoi.frozen (k + m)
          have hc := HI.out.lt
          have hst := HI.out.step hx rv hlm (by have := HM.out.len; omega)
          obtain ⟨y, hye⟩ : ∃ y, y = vs.getD m 0 := ⟨_, rfl⟩
          obtain ⟨o, hoe⟩ : ∃ o, o = oi.getD (k + m) 0 := ⟨_, rfl⟩
          rw [← hye, ← hoe] at hst
          rw [← hye] at hy hcb
          rw [← hoe] at ho hco
          clear hye hoe
          obtain ⟨e1, e2, e3⟩ := mul_wraps hx hy ho hc
          have HST := Lib.hid hst
          clear hst
          generalize cc + (x * y + o) = s at *
          have hin : k + m < us.length + vs.length := by omega
          go_wp2
          go_roundw
          case rel => exact ⟨m + 1, s / 4294967296, by omega, by simp, by simp, _, HST.out, hoi.set _ s⟩
          case measure => simp [intOf]; omega
        · obtain rfl : m = vs.length := by omega
          have hcell := hoi.cell (j := k + vs.length) hol
          have hfr := hoi.frozen (k + vs.length)
          have hin : k + vs.length < us.length + vs.length := by omega
          have hstep := HM.out.step hlt (by rw [← HX.out]; exact HI.out)
          have HST := Lib.hid hstep
          have hcc := HI.out.lt
          have hmod : cc % 4294967296 = cc := Nat.mod_eq_of_lt hcc
          have HC := Lib.hid hmod
          clear hstep hmod hcc
          generalize oi.getD (k + vs.length) 0 = o at *
          go_wp2
          go_roundw
          case rel => exact ⟨k + 1, by omega, by simp, _, by rw [← HC.out] at HST; exact HST, hoi.set _ cc⟩
          case measure => simp [intOf]; omega
    · obtain rfl : k = us.length := by omega
      go_wp2
      go_ret
      exact ⟨os, _, HM, rfl, hos.NW HM.out.rng, hos.2.1⟩
end Go.Proofs.Ytnmmgegnioihmaa
