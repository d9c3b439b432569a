/- The reference's layer 33: SameRow of two vectors that are equal as numbers. -/
import Derived.Test.YtnmmgegnioihmaaRefB
import Derived.Test.YtnmmgegnioihmaaVecA
set_option linter.unusedVariables false
set_option linter.unusedSimpArgs false
namespace Go.Proofs.Ytnmmgegnioihmaa
open Go.RowKit

set_option maxHeartbeats 2000000 in
theorem SameRow_calls (A B : Option Addr) (ca cb : Nat) (us vs : List Qr) (M : Nat) (w : World) (hP : QRow w A ca us) (hQ : QRow w B cb vs) (hv : valsR us = valsR vs) (sP : ∀ q ∈ us, q.S ≤ M) (sQ : ∀ q ∈ vs, q.S ≤ M) (h1 : 1 ≤ M) (hM : M ≤ 4294967296) :
    Calls Try.prog 46 #[.slice A us.length ca, .slice B vs.length cb] w fun e w' => e = .returned (.bool true) ∧ Below w.heap.size w w' := by
  have hlen : vs.length = us.length := by have := congrArg List.length hv; simpa [valsR] using this.symm
  rw [hlen]
  have HLE := Lib.hid hlen
  have HV := Lib.hid hv
  have HS := Lib.hid (And.intro sP (And.intro sQ (And.intro h1 hM)))
  have hl9 := hP.le
  have hm9 := hP.mx
  unfold maxLen at hm9
  have hd2 : (((us.length : Nat) : Int) != (us.length : Int)) = false := by simp
  clear hlen hv sP sQ h1 hM
  go_enter Try.func46, Try.ntmps46
  go_wp2
  go_loopw [5] (fun i wr => ∃ k : Nat, k ≤ us.length ∧ i = .int .i64 k ∧ Below w.heap.size w wr) (fun i _ => us.length - (intOf i).toNat)
  case atStart => exact ⟨0, Nat.zero_le _, rfl, Below.refl _ _⟩
  case round =>
    obtain ⟨k, hk, rfl, hb⟩ := hrel
    by_cases hlt : k < us.length
    · obtain ⟨b1, o1, A1, d1, A2, d2, rfl, y0, y1, y2, y3, hqa⟩ := (hP.below hb).at hlt
      obtain ⟨b2, o2, A3, d3, A4, d4, rfl, x0, x1, x2, x3, hqb⟩ := (hQ.below hb).at (show k < vs.length by rw [HLE.out]; exact hlt)
      have hval : (us.getD k zeroQ).val = (vs.getD k zeroQ).val := by rw [← valsR_getD, ← valsR_getD, HV.out]
      have sa := getD_S HS.out.1 HS.out.2.2.1 k
      have sb := getD_S HS.out.2.1 HS.out.2.2.1 k
      generalize us.getD k zeroQ = a at *
      generalize vs.getD k zeroQ = b at *
      have HVV := Lib.hid hval
      have HSA : Hid (a.S ≤ 4294967296) := Lib.hid (Nat.le_trans sa HS.out.2.2.2)
      have HSB : Hid (b.S ≤ 4294967296) := Lib.hid (Nat.le_trans sb HS.out.2.2.2)
      clear hval sa sb
      have f0 : Fr w wr (fun _ => False) wr := Fr.start hb
      have t1 : ∀ W, Fr w wr (fun _ => False) W → W.cell? ⟨b1, o1 + k * 4, none⟩ = _ ∧ W.cell? ⟨b1, o1 + k * 4 + 1, none⟩ = _ ∧ W.cell? ⟨b1, o1 + k * 4 + 2, none⟩ = _ ∧ W.cell? ⟨b1, o1 + k * 4 + 3, none⟩ = _ := fun W hW => ⟨Fr.cell y0 (fun h => h) W hW, Fr.cell y1 (fun h => h) W hW, Fr.cell y2 (fun h => h) W hW, Fr.cell y3 (fun h => h) W hW⟩
      have t2 : ∀ W, Fr w wr (fun _ => False) W → W.cell? ⟨b2, o2 + k * 4, none⟩ = _ ∧ W.cell? ⟨b2, o2 + k * 4 + 1, none⟩ = _ ∧ W.cell? ⟨b2, o2 + k * 4 + 2, none⟩ = _ ∧ W.cell? ⟨b2, o2 + k * 4 + 3, none⟩ = _ := fun W hW => ⟨Fr.cell x0 (fun h => h) W hW, Fr.cell x1 (fun h => h) W hW, Fr.cell x2 (fun h => h) W hW, Fr.cell x3 (fun h => h) W hW⟩
      have hwA : ∀ W, Fr w wr (fun _ => False) W → IsQ W (.agg #[.bool a.n.neg, .slice A1 a.n.ws.length d1, .bool a.d.neg, .slice A2 a.d.ws.length d2]) a := fun W hW => hqa.below (hW.all hb)
      have hwB : ∀ W, Fr w wr (fun _ => False) W → IsQ W (.agg #[.bool b.n.neg, .slice A3 b.n.ws.length d3, .bool b.d.neg, .slice A4 b.d.ws.length d4]) b := fun W hW => hqb.below (hW.all hb)
      have HWA := Lib.hid hwA
      have HWB := Lib.hid hwB
      clear hwA hwB y0 y1 y2 y3 x0 x1 x2 x3
      go_wp2
      go_region_held3 (fun W => Fr w wr (fun _ => False) W) (first | assumption | exact Fr.drew (by assumption) | exact Fr.call (by assumption) (by assumption)) (first
        | (go_at_call 52; (with_reducible refine (hSameQ_calls _ _ a b _ (HWA.out _ (by assumption)) (HWB.out _ (by assumption)) HVV.out HSA.out HSB.out).mono ?_); rintro e w2 ⟨rfl, hb2⟩; have f2 := Fr.call (by assumption) hb2))
      go_wp2
      go_roundw
      case rel => exact ⟨k + 1, by omega, by simp, f2.b⟩
      case measure => simp [intOf]; omega
    · obtain rfl : k = us.length := by omega
      go_wp2
      go_ret
      exact ⟨rfl, hb⟩
end Go.Proofs.Ytnmmgegnioihmaa
