/- The reference: Sub of layer 2, Owed of layer 36, IsRow of layer 33. -/
import Derived.Test.YtnmmgegnioihmaaRef18
import Derived.Test.YtnmmgegnioihmaaSettA
set_option linter.unusedVariables false
set_option linter.unusedSimpArgs false
namespace Go.Proofs.Ytnmmgegnioihmaa
open Go.RowKit

set_option maxHeartbeats 2000000 in
theorem hSubQ_calls (va vb : Value) (a b : Qr) (w : World) (ha : IsQ w va a) (hb : IsQ w vb b) (hlen : a.S + b.S + 1 ≤ 4294967296) : Calls Try.prog 115 #[va, vb] w (PostQ w (a.val - b.val) (a.S + b.S + 1)) := by
  have hA := ha
  have hB := hb
  obtain ⟨A1, c1, A2, c2, rfl⟩ := ha.slices
  obtain ⟨A3, c3, A4, c4, rfl⟩ := hb.slices
  have HL := Lib.hid hlen
  have HL2 : Hid (b.S ≤ 4294967296) := Lib.hid (by omega)
  clear ha hb hlen
  go_enter Try.func115, Try.ntmps115
  go_wp2
  generalize hw0 : World.alloc _ _ = w0
  have hb0 : Below w.heap.size w w0 := by subst hw0; exact bl_alloc2 (bl_alloc2 (bl_alloc _ _) _) _
  have t1 : Box4 w w0 (· = w.heap.size + 2) w.heap.size (.bool a.n.neg) (.slice A1 a.n.ws.length c1) (.bool a.d.neg) (.slice A2 a.d.ws.length c2) := Box4.mk (by omega) (by subst hw0; refine ⟨?_, ?_, ?_, ?_⟩ <;> go_simp)
  have t2 : Box4 w w0 (· = w.heap.size + 2) (w.heap.size + 1) (.bool b.n.neg) (.slice A3 b.n.ws.length c3) (.bool b.d.neg) (.slice A4 b.d.ws.length c4) := Box4.mk (by omega) (by subst hw0; refine ⟨?_, ?_, ?_, ?_⟩ <;> go_simp)
  have k0 : Four (w.heap.size + 2) w0 := by subst hw0; exact Four.alloc _ _ _ _ _ (by simp)
  have f0 : Fr w w0 (· = w.heap.size + 2) w0 := Fr.start hb0
  have z0 : w0.heap.size = w.heap.size + 3 := by subst hw0; simp
  clear hw0
  go_region_held3 (fun W => Fr w w0 (· = w.heap.size + 2) W) (first | assumption | exact f0.drew | exact Fr.call (by assumption) (by assumption) | exact Fr.put4 f9 (by rfl) (by omega) _ _ _ _) (first
    | (go_at_call 111; (with_reducible refine (hNegQ_calls _ b _ (hB.below (Fr.b (by assumption))) HL2.out).mono ?_); rintro e w1 ⟨q1, x1, HQ1, hS1, rfl, hN1, hb1⟩; have f1 := Fr.call (by assumption) hb1)
    | (go_at_call 109; (with_reducible refine (hAddQ_calls _ _ a q1 _ (hA.below (Fr.b (by assumption))) hN1.is (by have := HL.out; omega)).mono ?_); rintro e w9 ⟨q, x9, HQ, hS, rfl, hN, hb9⟩; have f9 := Fr.call (by assumption) hb9; obtain ⟨v5, v6, rfl, ⟨r5, A5, c5, rfl, h5⟩, ⟨r6, A6, c6, rfl, h6⟩⟩ := hN; obtain ⟨⟨x0, y0⟩, ⟨x1, y1⟩, ⟨x2, y2⟩, ⟨x3, y3⟩, g0, g1, g2, g3⟩ := (Fr.four f9 k0).cells))
  go_wp2
  have s2 := f1.size
  have hQ : NQ w1.heap.size w9 (.agg #[.bool q.n.neg, .slice A5 q.n.ws.length c5, .bool q.d.neg, .slice A6 q.d.ws.length c6]) q := ⟨_, _, rfl, ⟨r5, A5, c5, rfl, h5⟩, ⟨r6, A6, c6, rfl, h6⟩⟩
  exact bodyPost_ret (v := .agg #[.bool _, .slice _ _ _, .bool _, .slice _ _ _]) (by simp [results, Try.results115, go_sem, y0, y1, y2, y3]) rfl (postQ_put4 hQ (by rw [HQ.out, HQ1.out, canQ_val]; congr 1; exact (Rat.sub_eq_add_neg _ _).symm) (by omega) f9.b (by omega) (by omega))
set_option maxHeartbeats 4000000 in
theorem hOwed_calls (va vp vr vn : Value) (a p r n : Qr) (M : Nat) (w : World) (ha : IsQ w va a) (hp : IsQ w vp p) (hr : IsQ w vr r) (hn : IsQ w vn n) (sa : a.S ≤ M) (sp : p.S ≤ M) (sr : r.S ≤ M) (sn : n.S ≤ M) (hM : M ≤ 16777216) :
    Calls Try.prog 91 #[va, vp, vr, vn] w (PostQ w (owedR a.val p.val r.val n.val) (5 * M + 1)) := by
  have hA := ha
  have hP := hp
  have hR := hr
  have hN := hn
  obtain ⟨A1, c1, A2, c2, rfl⟩ := ha.slices
  obtain ⟨A3, c3, A4, c4, rfl⟩ := hp.slices
  obtain ⟨A5, c5, A6, c6, rfl⟩ := hr.slices
  obtain ⟨A7, c7, A8, c8, rfl⟩ := hn.slices
  have HS := Lib.hid (And.intro sa (And.intro sp (And.intro sr (And.intro sn hM))))
  clear ha hp hr hn sa sp sr sn hM
  go_enter Try.func91, Try.ntmps91
  go_wp2
  generalize hw0 : World.alloc _ _ = w0
  have hb0 : Below w.heap.size w w0 := by subst hw0; exact bl_alloc2 (bl_alloc2 (bl_alloc2 (bl_alloc2 (bl_alloc _ _) _) _) _) _
  have t1 : Box4 w w0 (· = w.heap.size + 4) w.heap.size (.bool a.n.neg) (.slice A1 a.n.ws.length c1) (.bool a.d.neg) (.slice A2 a.d.ws.length c2) := Box4.mk (by omega) (by subst hw0; refine ⟨?_, ?_, ?_, ?_⟩ <;> go_simp)
  have t2 : Box4 w w0 (· = w.heap.size + 4) (w.heap.size + 1) (.bool p.n.neg) (.slice A3 p.n.ws.length c3) (.bool p.d.neg) (.slice A4 p.d.ws.length c4) := Box4.mk (by omega) (by subst hw0; refine ⟨?_, ?_, ?_, ?_⟩ <;> go_simp)
  have t3 : Box4 w w0 (· = w.heap.size + 4) (w.heap.size + 2) (.bool r.n.neg) (.slice A5 r.n.ws.length c5) (.bool r.d.neg) (.slice A6 r.d.ws.length c6) := Box4.mk (by omega) (by subst hw0; refine ⟨?_, ?_, ?_, ?_⟩ <;> go_simp)
  have t4 : Box4 w w0 (· = w.heap.size + 4) (w.heap.size + 3) (.bool n.n.neg) (.slice A7 n.n.ws.length c7) (.bool n.d.neg) (.slice A8 n.d.ws.length c8) := Box4.mk (by omega) (by subst hw0; refine ⟨?_, ?_, ?_, ?_⟩ <;> go_simp)
  have k0 : Four (w.heap.size + 4) w0 := by subst hw0; exact Four.alloc _ _ _ _ _ (by simp)
  have f0 : Fr w w0 (· = w.heap.size + 4) w0 := Fr.start hb0
  have z0 : w0.heap.size = w.heap.size + 5 := by subst hw0; simp
  clear hw0
  go_region_held3 (fun W => Fr w w0 (· = w.heap.size + 4) W) (first | assumption | exact f0.drew | exact Fr.call (by assumption) (by assumption) | exact Fr.put4 f9 (by rfl) (by omega) _ _ _ _) (first
    | (go_at_call 110; (with_reducible refine (hMulQ_calls _ _ a p _ (hA.below (Fr.b (by assumption))) (hP.below (Fr.b (by assumption))) (by have := HS.out; omega)).mono ?_); rintro e w1 ⟨q1, x1, HQ1, hS1, rfl, hN1, hb1⟩; have f1 := Fr.call (by assumption) hb1)
    | (go_at_call 115; (with_reducible refine (hSubQ_calls _ _ r a _ (hR.below (Fr.b (by assumption))) (hA.below (Fr.b (by assumption))) (by have := HS.out; omega)).mono ?_); rintro e w2 ⟨q2, x2, HQ2, hS2, rfl, hN2, hb2⟩; have f2 := Fr.call (by assumption) hb2)
    | (go_at_call 110; (with_reducible refine (hMulQ_calls _ _ n q2 _ (hN.below (Fr.b (by assumption))) hN2.is (by have := HS.out; omega)).mono ?_); rintro e w3 ⟨q3, x3, HQ3, hS3, rfl, hN3, hb3⟩; have f3 := Fr.call (by assumption) hb3)
    | (go_at_call 109; (with_reducible refine (hAddQ_calls _ _ q1 q3 _ (hN1.is.below (bl_trans hb2 hb3)) hN3.is (by have := HS.out; omega)).mono ?_); rintro e w9 ⟨q, x9, HQ, hS, rfl, hN9, hb9⟩; have f9 := Fr.call (by assumption) hb9; obtain ⟨v5, v6, rfl, ⟨r5, B5, d5, rfl, h5⟩, ⟨r6, B6, d6, rfl, h6⟩⟩ := hN9; obtain ⟨⟨x0, y0⟩, ⟨x1, y1⟩, ⟨x2, y2⟩, ⟨x3, y3⟩, g0, g1, g2, g3⟩ := (Fr.four f9 k0).cells))
  go_wp2
  have s2 := f3.size
  have hQ : NQ w3.heap.size w9 (.agg #[.bool q.n.neg, .slice B5 q.n.ws.length d5, .bool q.d.neg, .slice B6 q.d.ws.length d6]) q := ⟨_, _, rfl, ⟨r5, B5, d5, rfl, h5⟩, ⟨r6, B6, d6, rfl, h6⟩⟩
  exact bodyPost_ret (v := .agg #[.bool _, .slice _ _ _, .bool _, .slice _ _ _]) (by simp [results, Try.results91, go_sem, y0, y1, y2, y3]) rfl (postQ_put4 hQ (by rw [HQ.out, HQ1.out, HQ3.out, HQ2.out]; simp only [canQ_val]; rfl) (by have := HS.out; omega) f9.b (by omega) (by omega))
set_option maxHeartbeats 2000000 in
/-- two rows whose representations are alike -/
theorem IsRow_calls (A B : Option Addr) (ca cb : Nat) (us : List Qr) (M : Nat) (w : World) (hP : QRow w A ca us) (hQ : QRow w B cb us) (sP : ∀ q ∈ us, q.S ≤ M) (h1 : 1 ≤ M) (hM : M ≤ 4294967296) :
    Calls Try.prog 30 #[.slice A us.length ca, .slice B us.length cb] w fun e w' => e = .returned (.bool true) ∧ Below w.heap.size w w' := by
  have HS := Lib.hid (And.intro sP (And.intro h1 hM))
  have hl9 := hP.le
  have hm9 := hP.mx
  unfold maxLen at hm9
  have hd2 : (((us.length : Nat) : Int) != (us.length : Int)) = false := by simp
  clear sP h1 hM
  go_enter Try.func30, Try.ntmps30
  go_wp2
  go_loopw [5] (fun i wr => ∃ k : Nat, k ≤ us.length ∧ i = .int .i64 k ∧ Below w.heap.size w wr) (fun i _ => us.length - (intOf i).toNat)
  case atStart => exact ⟨0, Nat.zero_le _, rfl, Below.refl _ _⟩
  case round =>
    obtain ⟨k, hk, rfl, hb⟩ := hrel
    by_cases hlt : k < us.length
    · obtain ⟨b1, o1, A1, d1, A2, d2, rfl, y0, y1, y2, y3, hqa⟩ := (hP.below hb).at hlt
      obtain ⟨b2, o2, A3, d3, A4, d4, rfl, x0, x1, x2, x3, hqb⟩ := (hQ.below hb).at hlt
      have sa := getD_S HS.out.1 HS.out.2.1 k
      generalize us.getD k zeroQ = a at *
      have HSA : Hid (a.S ≤ 4398046511104) := Lib.hid (by have := HS.out.2.2; omega)
      clear sa
      have f0 : Fr w wr (fun _ => False) wr := Fr.start hb
      have t1 : ∀ W, Fr w wr (fun _ => False) W → W.cell? ⟨b1, o1 + k * 4, none⟩ = _ ∧ W.cell? ⟨b1, o1 + k * 4 + 1, none⟩ = _ ∧ W.cell? ⟨b1, o1 + k * 4 + 2, none⟩ = _ ∧ W.cell? ⟨b1, o1 + k * 4 + 3, none⟩ = _ := fun W hW => ⟨Fr.cell y0 (fun h => h) W hW, Fr.cell y1 (fun h => h) W hW, Fr.cell y2 (fun h => h) W hW, Fr.cell y3 (fun h => h) W hW⟩
      have t2 : ∀ W, Fr w wr (fun _ => False) W → W.cell? ⟨b2, o2 + k * 4, none⟩ = _ ∧ W.cell? ⟨b2, o2 + k * 4 + 1, none⟩ = _ ∧ W.cell? ⟨b2, o2 + k * 4 + 2, none⟩ = _ ∧ W.cell? ⟨b2, o2 + k * 4 + 3, none⟩ = _ := fun W hW => ⟨Fr.cell x0 (fun h => h) W hW, Fr.cell x1 (fun h => h) W hW, Fr.cell x2 (fun h => h) W hW, Fr.cell x3 (fun h => h) W hW⟩
      have hwA : ∀ W, Fr w wr (fun _ => False) W → IsQ W (.agg #[.bool a.n.neg, .slice A1 a.n.ws.length d1, .bool a.d.neg, .slice A2 a.d.ws.length d2]) a := fun W hW => hqa.below (hW.all hb)
      have hwB : ∀ W, Fr w wr (fun _ => False) W → IsQ W (.agg #[.bool a.n.neg, .slice A3 a.n.ws.length d3, .bool a.d.neg, .slice A4 a.d.ws.length d4]) a := fun W hW => hqb.below (hW.all hb)
      have HWA := Lib.hid hwA
      have HWB := Lib.hid hwB
      clear hwA hwB y0 y1 y2 y3 x0 x1 x2 x3
      go_wp2
      go_region_held3 (fun W => Fr w wr (fun _ => False) W) (first | assumption | exact Fr.drew (by assumption) | exact Fr.call (by assumption) (by assumption)) (first
        | (go_at_call 58; (with_reducible refine (hIs_calls _ _ a _ (HWA.out _ (by assumption)) (HWB.out _ (by assumption)) HSA.out).mono ?_); rintro e w2 ⟨rfl, hb2⟩; have f2 := Fr.call (by assumption) hb2))
      go_wp2
      go_roundw
      case rel => exact ⟨k + 1, by omega, by simp, f2.b⟩
      case measure => simp [intOf]; omega
    · obtain rfl : k = us.length := by omega
      go_wp2
      go_ret
      exact ⟨rfl, hb⟩
end Go.Proofs.Ytnmmgegnioihmaa
