/- Package frac: least. -/
import Derived.Test.YtnmmgegnioihmaaFrac1
set_option linter.unusedVariables false
set_option linter.unusedSimpArgs false
namespace Go.Proofs.Ytnmmgegnioihmaa
open Go.RowKit

/-- a new variable of two cells, filled -/
theorem bl_new2 (w : World) (T : TypeId) (x y a b : Value) : Below w.heap.size w (((w.alloc (.cells #[x, y] T)).setCell ⟨w.heap.size, 0, none⟩ a).setCell ⟨w.heap.size, 1, none⟩ b) :=
  ((bl_alloc w _).setCell (p := ⟨w.heap.size, 0, none⟩) (Nat.le_refl _) a).setCell (p := ⟨w.heap.size, 1, none⟩) (Nat.le_refl _) b
theorem least_num {a b : Int} (hb : 0 < b) : (Rat.divInt a b).num = a / (Int.gcd a b : Nat) := by
  rw [Rat.num_divInt, Int.sign_eq_one_of_pos hb, Int.one_mul, Int.gcd_comm]
theorem least_den {a b : Int} (hb : 0 < b) : ((Rat.divInt a b).den : Int) = b / (Int.gcd a b : Nat) := by
  rw [Rat.den_divInt, if_neg (by omega), Int.gcd_comm]
  have : (b.natAbs : Int) = b := by omega
  rw [Int.natCast_ediv, this]
theorem gcd_ne {a b : Int} (hb : 0 < b) : ((Int.gcd a b : Nat) : Int) ≠ 0 := by
  intro h
  have := (Int.gcd_eq_zero_iff (a := a) (b := b)).1 (by omega)
  omega
theorem gcd_len {a b : Int} {xs : List Nat} (hb : 0 < b) (h : b.natAbs < 4294967296 ^ xs.length) : (canZ (Int.gcd a b : Nat)).ws.length ≤ xs.length := by
  refine canZ_len ?_
  have : Int.gcd a b ≤ b.natAbs := Int.gcd_le_natAbs_right _ (by omega)
  simp
  omega
theorem Fr.all {w w6 W : World} (h : Fr w w6 (fun _ => False) W) (h0 : Below w.heap.size w w6) : Below w6.heap.size w6 W :=
  ⟨h.b.os.trans h0.os.symm, h.b.tape.trans h0.tape.symm, h.b.output.trans h0.output.symm, h.size, fun k hk => h.block k hk (fun h => h)⟩
theorem den_sign {d : Nat} (hd : d ≠ 0) : ((d : Int) - 1).sign = 0 ↔ d = 1 := by rw [Int.sign_eq_zero_iff_zero]; omega
set_option maxHeartbeats 2000000 in
theorem least_calls (va : Value) (p : Qr) (x : Rat) (B : Nat) (w : World) (ha : IsQ w va p) (hd : 0 < p.d.val) (hx : Rat.divInt p.n.val p.d.val = x) (hB : (canQ x).S ≤ B) (hlen : 2 * (p.n.ws.length + p.d.ws.length) + 4 ≤ 35184372088832) :
    Calls Try.prog 130 #[va] w (PostQ w x B) := by
  obtain ⟨v1, v2, rfl, hn, hdd⟩ := ha
  have hzn : IsZ w (.agg #[.bool p.n.neg, v1]) p.n := ⟨v1, rfl, hn⟩
  have hzd : IsZ w (.agg #[.bool p.d.neg, v2]) p.d := ⟨v2, rfl, hdd⟩
  obtain ⟨rn, An, cn, rfl, hrn⟩ := hn
  obtain ⟨rd, Ad, cd, rfl, hrd⟩ := hdd
  have hgl := gcd_len (a := p.n.val) hd (Zr.val_lt rd)
  have hnum := least_num (a := p.n.val) hd
  have hden := least_den (a := p.n.val) hd
  rw [hx] at hnum hden
  have hg0 := gcd_ne (a := p.n.val) hd
  obtain ⟨G, hG⟩ : ∃ G : Int, G = (Int.gcd p.n.val p.d.val : Nat) := ⟨_, rfl⟩
  have hgc := GCD_calls
  have hL1 : 2 * (p.n.ws.length + p.d.ws.length) + 4 ≤ 35184372088832 := hlen
  have hL2 : p.n.ws.length + (canZ G).ws.length + 4 ≤ 35184372088832 := by rw [hG]; omega
  have hL3 : p.d.ws.length + (canZ G).ws.length + 4 ≤ 35184372088832 := by rw [hG]; omega
  rw [← hG] at hnum hden hg0
  have HL1 := Lib.hid hL1
  have HL2 := Lib.hid hL2
  have HL3 := Lib.hid hL3
  have HG := Lib.hid hG
  have HNM := Lib.hid hnum
  have HDN := Lib.hid hden
  have HB := Lib.hid hB
  clear hlen hL1 hL2 hL3 hG hnum hden hB hgl hx hgc
  go_enter Try.func130, Try.ntmps130
  go_wp2_with (first
    | (go_at_call 150; generalize hw0 : World.alloc _ _ = w0
       have hb0 : Below w.heap.size w w0 := by subst hw0; exact bl_alloc2 (bl_alloc _ _) _
       have t0 : w0.cell? ⟨w.heap.size, 0, none⟩ = some (.bool p.n.neg) ∧ w0.cell? ⟨w.heap.size, 1, none⟩ = some (.slice An p.n.ws.length cn) ∧ w0.cell? ⟨w.heap.size, 2, none⟩ = some (.bool p.d.neg) ∧ w0.cell? ⟨w.heap.size, 3, none⟩ = some (.slice Ad p.d.ws.length cd) := by subst hw0; refine ⟨?_, ?_, ?_, ?_⟩ <;> go_simp
       have k0 : Four (w.heap.size + 1) w0 := by subst hw0; exact Four.alloc _ _ _ _ _ (by simp)
       have z0 : w0.heap.size = w.heap.size + 2 := by subst hw0; simp
       clear hw0
       refine (GCD_calls _ _ p.n p.d _ (hzn.below hb0) (hzd.below hb0) HL1.out).mono ?_; rw [← HG.out]; rintro e w1 ⟨zg, xg, HZG, rfl, hZg, hb1⟩
       obtain ⟨u0, u1, u2, u3⟩ := t0
       replace u0 := bl_cell hb1 u0; replace u1 := bl_cell hb1 u1; replace u2 := bl_cell hb1 u2; replace u3 := bl_cell hb1 u3
       replace hZg := hZg.is; obtain ⟨xg2, rfl, hrg, Ag, cg, rfl, hNg⟩ := hZg; obtain rfl := HZG.out
       have q0 := fun o => bl_cell (bl_alloc w1 o) u0; have q1 := fun o => bl_cell (bl_alloc w1 o) u1; have q2 := fun o => bl_cell (bl_alloc w1 o) u2; have q3 := fun o => bl_cell (bl_alloc w1 o) u3
       have z1 := hb1.size)
    | (go_at_call 151; generalize hw4 : World.alloc _ _ = w4
       have hb4 : Below w3.heap.size w3 w4 := by subst hw4; exact bl_alloc2 (bl_alloc _ _) _
       have r0 : w4.cell? ⟨w3.heap.size, 0, none⟩ = some (.bool zq.neg) ∧ w4.cell? ⟨w3.heap.size, 1, none⟩ = some (.slice Aq zq.ws.length cq) := by subst hw4; refine ⟨?_, ?_⟩ <;> go_simp
       clear hw4 p0 p1 p2 p3 p4 p5
       obtain ⟨r0, r1⟩ := r0
       have hby : Below w.heap.size w w4 := bl_trans hbz (bl_trans hb3 hb4)
       refine (DivMod_calls _ _ p.d (canZ G) _ (hzd.below hby) (hGz.below (bl_trans hb3 hb4)) (by rw [canZ_val]; exact hg0) HL3.out).mono ?_; rw [canZ_val]; rintro e w5 ⟨zd, ze, xd, xe, HZD, HZE, rfl, hZd, hZe, hb5⟩
       have z4 := hb4.size
       have z5 := hb5.size
       replace r0 := bl_cell hb5 r0; replace r1 := bl_cell hb5 r1
       obtain ⟨xd2, rfl, hrdd, Ad2, cd2, rfl, hNd⟩ := hZd; obtain ⟨xe2, rfl, hre, Ae, ce, rfl, hNe⟩ := hZe)
    | (go_at_call 151; generalize hw2 : World.alloc _ _ = w2
       have hb2 : Below w1.heap.size w1 w2 := by subst hw2; exact bl_alloc _ _
       have e0 : w2.cell? ⟨w1.heap.size, 0, none⟩ = some (.bool (canZ G).neg) ∧ w2.cell? ⟨w1.heap.size, 1, none⟩ = some (.slice Ag (canZ G).ws.length cg) := by subst hw2; refine ⟨?_, ?_⟩ <;> go_simp
       clear hw2 q0 q1 q2 q3
       obtain ⟨e0, e1⟩ := e0
       have hbz : Below w.heap.size w w2 := bl_trans hb0 (bl_trans hb1 hb2)
       have hGz : IsZ w2 (.agg #[.bool (canZ G).neg, .slice Ag (canZ G).ws.length cg]) (canZ G) := ⟨_, rfl, hrg, Ag, cg, rfl, hNg.below hb2⟩
       refine (DivMod_calls _ _ p.n (canZ G) _ (hzn.below hbz) hGz (by rw [canZ_val]; exact hg0) HL2.out).mono ?_; rw [canZ_val]; rintro e w3 ⟨zq, zr, xq, xr, HZQ, HZR, rfl, hZq, hZr, hb3⟩
       have z2 := hb2.size
       have z3 := hb3.size
       replace u0 := bl_cell (bl_trans hb2 hb3) u0; replace u1 := bl_cell (bl_trans hb2 hb3) u1; replace u2 := bl_cell (bl_trans hb2 hb3) u2; replace u3 := bl_cell (bl_trans hb2 hb3) u3
       replace e0 := bl_cell hb3 e0; replace e1 := bl_cell hb3 e1
       obtain ⟨xq2, rfl, hrq, Aq, cq, rfl, hNq⟩ := hZq; obtain ⟨xr2, rfl, hrr, Ar, cr, rfl, hNr⟩ := hZr
       have p0 := fun o o' => bl_cell (bl_alloc2 (bl_alloc w3 o) o') u0; have p1 := fun o o' => bl_cell (bl_alloc2 (bl_alloc w3 o) o') u1; have p2 := fun o o' => bl_cell (bl_alloc2 (bl_alloc w3 o) o') u2; have p3 := fun o o' => bl_cell (bl_alloc2 (bl_alloc w3 o) o') u3; have p4 := fun o o' => bl_cell (bl_alloc2 (bl_alloc w3 o) o') e0; have p5 := fun o o' => bl_cell (bl_alloc2 (bl_alloc w3 o) o') e1))
  generalize hw6 : World.alloc _ _ = w6
  have hb6 : Below w5.heap.size w5 w6 := by subst hw6; exact bl_alloc2 (bl_alloc _ _) _
  have s0 : w6.cell? ⟨w5.heap.size, 0, none⟩ = some (.bool zd.neg) ∧ w6.cell? ⟨w5.heap.size, 1, none⟩ = some (.slice Ad2 zd.ws.length cd2) := by subst hw6; refine ⟨?_, ?_⟩ <;> go_simp
  clear hw6
  have z6 := hb6.size
  have hbx : Below w.heap.size w w6 := bl_trans hby (bl_trans hb5 hb6)
  have t7 : Box2 w w6 (fun _ => False) w5.heap.size (.bool zd.neg) (.slice Ad2 zd.ws.length cd2) := Box2.mk (fun h => h) s0
  have t4 : Box2 w w6 (fun _ => False) w3.heap.size (.bool zq.neg) (.slice Aq zq.ws.length cq) := Box2.mk (fun h => h) ⟨bl_cell hb6 r0, bl_cell hb6 r1⟩
  have f6 : Fr w w6 (fun _ => False) w6 := Fr.start hbx
  have hdz : IsZ w6 (.agg #[.bool zd.neg, .slice Ad2 zd.ws.length cd2]) zd := ⟨_, rfl, hrdd, Ad2, cd2, rfl, (hNd.below hb6).toRow⟩
  have k6 : Four (w.heap.size + 1) w6 := ((k0.below hb1).below (bl_trans hb2 (bl_trans hb3 hb4))).below (bl_trans hb5 hb6)
  clear r0 r1 s0
  have hzdv : zd.val = (x.den : Int) := by rw [HZD.out, canZ_val, HDN.out]
  have hl4 : zd.ws.length + 1 + 2 ≤ 35184372088832 := by
    have h1 : zd.ws.length ≤ p.d.ws.length := by
      rw [HZD.out]
      exact canZ_len (Nat.lt_of_le_of_lt (Int.natAbs_ediv_le_natAbs _ _) (Zr.val_lt rd))
    have := HL1.out
    omega
  have HL4 := Lib.hid hl4
  have HZV := Lib.hid hzdv
  clear hl4 hzdv
  have hcmp : ∀ W vz (z1 : Zr), z1 = canZ 1 → IsZ W (.agg #[.bool zd.neg, .slice Ad2 zd.ws.length cd2]) zd → IsZ W vz z1 → Calls Try.prog 117 #[.agg #[.bool zd.neg, .slice Ad2 zd.ws.length cd2], vz] W fun e w' => e = .returned (.int .i64 ((x.den : Int) - 1).sign) ∧ Below W.heap.size W w' := fun W vz z1 e h1 h2 => by
    subst e
    have := whole_Cmp_calls _ _ zd (canZ 1) W h1 h2 (Nat.le_trans (Nat.add_le_add_right (Nat.add_le_add_left (canZ_len (k := 1) (by decide)) _) 2) HL4.out)
    rwa [HZV.out, canZ_val] at this
  have hds := den_sign x.den_nz
  obtain ⟨sg, hsg⟩ : ∃ sg, sg = ((x.den : Int) - 1).sign := ⟨_, rfl⟩
  rw [← hsg] at hcmp hds
  clear hsg
  by_cases h0 : sg = 0
  · subst h0
    have hq : canQ x = ⟨zq, ⟨false, []⟩⟩ := by
      unfold canQ
      rw [if_pos (hds.1 rfl), HZQ.out, HNM.out]
    have HQ := Lib.hid hq
    clear hds hq
    go_region_held3 (fun W => Fr w w6 (fun _ => False) W) (first | assumption | exact Fr.drew (by assumption) | exact Fr.call (by assumption) (by assumption)) (first
      | (go_at_call 115; (with_reducible refine (FromInt64_calls 1 _ (by omega) (by omega)).mono ?_); rintro e w7 ⟨z1, x1, HZ1, rfl, hZ1, hb7⟩; have f7 := Fr.call (by assumption) hb7)
      | (go_at_call 117; (with_reducible refine (hcmp _ _ z1 HZ1.out (hdz.below (f7.all hbx)) hZ1.is).mono ?_); rintro e w8 ⟨rfl, hb8⟩; have f8 := f7.call hb8; obtain ⟨⟨x0, y0⟩, ⟨x1, y1⟩, ⟨x2, y2⟩, ⟨x3, y3⟩, g0, g1, g2, g3⟩ := (k6.below (f8.all hbx)).cells; obtain ⟨u4, u5⟩ := t4 _ f8; obtain ⟨u7, u8⟩ := t7 _ f8))
    go_wp2
    have hqw := (((hNq.below hb4).below hb5).below hb6).below (f8.all hbx)
    have hQ : NQ w2.heap.size w8 (.agg #[.bool zq.neg, .slice Aq zq.ws.length cq, .bool false, .slice none 0 0]) ⟨zq, ⟨false, []⟩⟩ := ⟨_, _, rfl, ⟨hrq, Aq, cq, rfl, hqw⟩, ⟨Rng.nil, none, 0, rfl, NRow.nil _ _ _⟩⟩
    exact bodyPost_ret (v := .agg #[.bool _, .slice _ _ _, .bool _, .slice _ _ _]) (by simp [results, Try.results130, go_sem, y0, y1, y2, y3]) rfl (postQ_put4 hQ HQ.out.symm (by rw [← HQ.out]; exact HB.out) f8.b (by omega) (by omega))
  · have h1 : (sg == 0) = false := by simpa using h0
    have hq : canQ x = ⟨zq, zd⟩ := by
      unfold canQ
      rw [if_neg (fun h => h0 (hds.2 h)), HZQ.out, HZD.out, HNM.out, HDN.out]
    have HQ := Lib.hid hq
    clear hds hq
    go_region_held3 (fun W => Fr w w6 (fun _ => False) W) (first | assumption | exact Fr.drew (by assumption) | exact Fr.call (by assumption) (by assumption)) (first
      | (go_at_call 115; (with_reducible refine (FromInt64_calls 1 _ (by omega) (by omega)).mono ?_); rintro e w7 ⟨z1, x1, HZ1, rfl, hZ1, hb7⟩; have f7 := Fr.call (by assumption) hb7)
      | (go_at_call 117; (with_reducible refine (hcmp _ _ z1 HZ1.out (hdz.below (f7.all hbx)) hZ1.is).mono ?_); rintro e w8 ⟨rfl, hb8⟩; have f8 := f7.call hb8; obtain ⟨⟨x0, y0⟩, ⟨x1, y1⟩, ⟨x2, y2⟩, ⟨x3, y3⟩, g0, g1, g2, g3⟩ := (k6.below (f8.all hbx)).cells; obtain ⟨u4, u5⟩ := t4 _ f8; obtain ⟨u7, u8⟩ := t7 _ f8))
    go_wp2
    have hqw := (((hNq.below hb4).below hb5).below hb6).below (f8.all hbx)
    have hdw := (hNd.below hb6).below (f8.all hbx)
    have hQ : NQ w2.heap.size w8 (.agg #[.bool zq.neg, .slice Aq zq.ws.length cq, .bool zd.neg, .slice Ad2 zd.ws.length cd2]) ⟨zq, zd⟩ := ⟨_, _, rfl, ⟨hrq, Aq, cq, rfl, hqw⟩, ⟨hrdd, Ad2, cd2, rfl, hdw.mono (by omega)⟩⟩
    exact bodyPost_ret (v := .agg #[.bool _, .slice _ _ _, .bool _, .slice _ _ _]) (by simp [results, Try.results130, go_sem, y0, y1, y2, y3]) rfl (postQ_put4 hQ HQ.out.symm (by rw [← HQ.out]; exact HB.out) f8.b (by omega) (by omega))
end Go.Proofs.Ytnmmgegnioihmaa
