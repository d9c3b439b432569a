/- The laws' own helpers: is. -/
import Derived.Test.YtnmmgegnioihmaaFrac6
import Derived.Test.YtnmmgegnioihmaaSett4
set_option linter.unusedVariables false
set_option linter.unusedSimpArgs false
namespace Go.Proofs.Ytnmmgegnioihmaa
open Go.RowKit

set_option maxHeartbeats 2000000 in
theorem is36_calls (va : Value) (a : Qr) (n : Int) (w : World) (ha : IsQ w va a) (h1 : -9223372036854775808 ≤ n) (h2 : n ≤ 9223372036854775807) (hlen : 8 * (a.S + 3) + 8 ≤ 35184372088832) :
    Calls Try.prog 44 #[va, .int .i64 n] w fun e w' => e = .returned (.bool (decide (a.val = (n : Rat)))) ∧ Below w.heap.size w w' := by
  have hA := ha
  obtain ⟨A1, c1, A2, c2, rfl⟩ := ha.slices
  have HL := Lib.hid hlen
  have H1 := Lib.hid h1
  have H2 := Lib.hid h2
  clear hlen ha h1 h2
  go_enter Try.func44, Try.ntmps44
  go_wp2
  generalize hw0 : World.alloc _ _ = w0
  have hb0 : Below w.heap.size w w0 := by subst hw0; exact bl_alloc _ _
  have t1 : Box4 w w0 (fun _ => False) w.heap.size (.bool a.n.neg) (.slice A1 a.n.ws.length c1) (.bool a.d.neg) (.slice A2 a.d.ws.length c2) := Box4.mk (fun h => h) (by subst hw0; refine ⟨?_, ?_, ?_, ?_⟩ <;> go_simp)
  have f0 : Fr w w0 (fun _ => False) w0 := Fr.start hb0
  clear hw0
  go_region_held3 (fun W => Fr w w0 (fun _ => False) W) (first | assumption | exact Fr.drew (by assumption) | exact Fr.call (by assumption) (by assumption)) (first
    | (go_at_call 73; (with_reducible refine (frac_FromInt64_calls n _ H1.out H2.out).mono ?_); rintro e w1 ⟨q1, x1, HQ1, hS1, rfl, hN1, hb1⟩; have hq1 := hN1.is; obtain ⟨B1, d1, B2, d2, rfl⟩ := hq1.slices)
    | (go_at_call 33; (with_reducible refine (frac_Equal_calls _ _ a q1 _ (hA.below (Fr.b (by assumption))) hq1 (by have := HL.out; omega)).mono ?_); rintro e w2 ⟨rfl, hb2⟩; have f2 := Fr.call (by assumption) hb2))
  go_wp2
  go_ret
  exact ⟨ret_bool (by rw [HQ1.out, canQ_val]), f2.b⟩
theorem lit64 (X : World) (T : TypeId) (xs : List Int) (cs : Array Value) (n : Nat) (hcs : cs = (xs.map enc64).toArray) (hn : n = X.heap.size) (hl : xs.length ≤ maxLen) : Row enc64 (X.alloc (.cells cs T)) (some ⟨n, 0, none⟩) xs.length xs := by
  subst hn
  refine (NRow.new (n0 := 0) (heap_alloc_new X _) (Nat.zero_le _) hl (Nat.le_refl _) fun j x hj => ?_).toRow
  subst hcs
  simp [hj]
example : owedR 10 20 7 30 = 110 := by unfold owedR; grind
example : sumV [160] - sumV [110] = (50 : Rat) := by unfold sumV; simp; grind
end Go.Proofs.Ytnmmgegnioihmaa
