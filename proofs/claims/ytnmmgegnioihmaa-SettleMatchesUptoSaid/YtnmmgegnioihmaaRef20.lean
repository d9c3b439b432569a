/- The reference: All of layer 36. -/
import Derived.Test.YtnmmgegnioihmaaRef19
import Derived.Test.YtnmmgegnioihmaaVecA
import Derived.Test.YtnmmgegnioihmaaN1
set_option linter.unusedVariables false
set_option linter.unusedSimpArgs false
namespace Go.Proofs.Ytnmmgegnioihmaa
open Go.RowKit

theorem all_grow {w wr w6 : World} {q : Qr} {n1 n2 m5 m6 k oc : Nat} {C5 C6 O : Option Addr} {out : List Qr} (hO : OwnQ w.heap.size wr (.slice O k oc) out) (hol : out.length = k) (hk : k ≤ 65536) (hb : Below w.heap.size w wr) (hb6 : Below wr.heap.size wr w6)
    (hN : NQ wr.heap.size w6 (.agg #[.bool q.n.neg, .slice C5 n1 m5, .bool q.d.neg, .slice C6 n2 m6]) q) :
    ∃ A cap w7, (Builtin.append_ #[23, 23] 23 #[.slice O k oc, .slice (some ⟨w6.heap.size, 0, none⟩) 1 1]).run Try.prog (w6.alloc (.cells #[.bool q.n.neg, .slice C5 n1 m5, .bool q.d.neg, .slice C6 n2 m6] 43)) = .ok (.slice A (k + 1) cap) w7 ∧
      OwnQ w.heap.size w7 (.slice A (k + 1) cap) (out ++ [q]) ∧ Below w.heap.size w w7 := by
  subst hol
  obtain ⟨A, cap, w7, hr, hO7, hg⟩ := run_append_q1 (w := w6) 23 q n1 m5 C5 n2 m6 C6 43 w.heap.size wr.heap.size _ out (hO.below hb6) hN (fun k e => (hO.lt k e).2) (by omega) (Nat.le_trans hb.size hb6.size) hb.size
  exact ⟨A, cap, w7, hr, hO7, grown_below (bl_trans (bl_trans hb hb6) (bl_alloc _ _)) hg (Nat.le_trans hb.size (Nat.le_trans hb6.size (bl_alloc _ _).size)) (fun j e => (hO.lt j e).1)⟩
set_option maxHeartbeats 4000000 in
set_option maxRecDepth 8000 in
theorem hAll_calls (A : Option Addr) (ac : Nat) (xs : List Int) (P1 P2 G1 G2 : Option Addr) (p1 p2 g1 g2 : Nat) (P P' G G' : List Qr) (M : Nat) (w : World) (hxs : Row enc64 w A ac xs) (hxl : xs.length ≤ 65536)
    (hP : QRow w P1 p1 P) (hP' : QRow w P2 p2 P') (hG : QRow w G1 g1 G) (hG' : QRow w G2 g2 G') (sP : ∀ q ∈ P, q.S ≤ M) (sP' : ∀ q ∈ P', q.S ≤ M) (sG : ∀ q ∈ G, q.S ≤ M) (sG' : ∀ q ∈ G', q.S ≤ M) (h1 : 1 ≤ M) (hM : M ≤ 16777216) :
    Calls Try.prog 27 #[.slice A xs.length ac, .slice P1 P.length p1, .slice P2 P'.length p2, .slice G1 G.length g1, .slice G2 G'.length g2] w (PostAll w xs P P' G G' (5 * M + 1)) := by
  have HS := Lib.hid (And.intro sP (And.intro sP' (And.intro sG sG')))
  have HM := Lib.hid (And.intro h1 hM)
  clear sP sP' sG sG' h1 hM
  go_enter Try.func27, Try.ntmps27
  go_wp2
  go_loopw [12, 13] (fun o i wr => ∃ (k : Nat) (O : Option Addr) (oc : Nat) (out : List Qr), k ≤ xs.length ∧ i = .int .i64 k ∧ o = .slice O k oc ∧ out.length = k ∧ OwnQ w.heap.size wr (.slice O k oc) out ∧ Below w.heap.size w wr ∧
    Hid (∀ j, j < k → 0 ≤ xs.getD j 0 ∧ xs.getD j 0 < P.length ∧ xs.getD j 0 < P'.length) ∧ Hid (∀ j, j < k → out[j]? = some (canQ (amt xs P P' G G' j))) ∧ Hid (∀ q ∈ out, q.S ≤ 5 * M + 1)) (fun _ i _ => xs.length - (intOf i).toNat)
  case atStart => exact ⟨0, none, 0, [], Nat.zero_le _, rfl, rfl, rfl, OwnQ.nil _ _, Below.refl _ _, Lib.hid (fun j hj => by omega), Lib.hid (fun j hj => by omega), Lib.hid (fun q hq => by cases hq)⟩
  case round =>
    obtain ⟨k, O, oc, out, hk, rfl, rfl, hol, hO, hb, HOK, HOUT, HSO⟩ := hrel
    by_cases hlt : k < xs.length
    · obtain ⟨bx, ox, rfl, hc⟩ := row64_at (hxs.below hb) hlt
      obtain ⟨x, hxe⟩ : ∃ x, x = xs.getD k 0 := ⟨_, rfl⟩
      have HX := Lib.hid hxe
      rw [← hxe] at hc
      clear hxe
      have hbad : ¬ (0 ≤ x ∧ x < P.length ∧ x < P'.length) → ¬ OkAt xs P.length P'.length := fun hn h => hn (h x (by rw [HX.out, List.getD_eq_getElem?_getD, List.getElem?_eq_getElem hlt]; simp))
      by_cases c1 : x < 0
      · go_wp2
        exact bodyPost_ret (v := .tuple #[.slice none 0 0, .int .i64 1]) (by simp [results, Try.results27, go_sem]) rfl ⟨_, _, rfl, hb, .inr ⟨hbad (by omega), rfl, rfl⟩⟩
      · by_cases c2 : (P.length : Int) ≤ x
        · go_wp2
          exact bodyPost_ret (v := .tuple #[.slice none 0 0, .int .i64 1]) (by simp [results, Try.results27, go_sem]) rfl ⟨_, _, rfl, hb, .inr ⟨hbad (by omega), rfl, rfl⟩⟩
        · by_cases c3 : (P'.length : Int) ≤ x
          · go_wp2
            exact bodyPost_ret (v := .tuple #[.slice none 0 0, .int .i64 1]) (by simp [results, Try.results27, go_sem]) rfl ⟨_, _, rfl, hb, .inr ⟨hbad (by omega), rfl, rfl⟩⟩
          · clear hbad
            obtain ⟨xn, rfl⟩ : ∃ xn : Nat, x = xn := ⟨x.toNat, by omega⟩
            have hx1 : xn < P.length := by omega
            have hx2 : xn < P'.length := by omega
            obtain ⟨bp, op, A3, a3, A4, a4, rfl, y4, y5, y6, y7, hqp⟩ := hP.at hx1
            obtain ⟨bn, on, A7, a7, A8, a8, rfl, y12, y13, y14, y15, hqn⟩ := hP'.at hx2
            have sa := getD_S HS.out.2.2.1 HM.out.1 k
            have sp := getD_S HS.out.1 HM.out.1 xn
            have sr := getD_S HS.out.2.2.2 HM.out.1 k
            have sn := getD_S HS.out.2.1 HM.out.1 xn
            have hgA : IsR w (.slice G1 G.length g1) G := hG.isR
            have hgR : IsR w (.slice G2 G'.length g2) G' := hG'.isR
            obtain ⟨qa, ea⟩ : ∃ q, q = G.getD k zeroQ := ⟨_, rfl⟩
            obtain ⟨qp, ep⟩ : ∃ q, q = P.getD xn zeroQ := ⟨_, rfl⟩
            obtain ⟨qr, er⟩ : ∃ q, q = G'.getD k zeroQ := ⟨_, rfl⟩
            obtain ⟨qn, en⟩ : ∃ q, q = P'.getD xn zeroQ := ⟨_, rfl⟩
            have EA := Lib.hid ea
            have EP := Lib.hid ep
            have ER := Lib.hid er
            have EN := Lib.hid en
            rw [← ea] at sa
            rw [← ep] at y4 y5 y6 y7 hqp sp
            rw [← er] at sr
            rw [← en] at y12 y13 y14 y15 hqn sn
            clear ea ep er en
            have HSX := Lib.hid (And.intro sa (And.intro sp (And.intro sr sn)))
            clear sa sp sr sn
            have E2 : ∀ W, Below w.heap.size w W → W.cell? ⟨bp, op + xn * 4, none⟩ = _ ∧ W.cell? ⟨bp, op + xn * 4 + 1, none⟩ = _ ∧ W.cell? ⟨bp, op + xn * 4 + 2, none⟩ = _ ∧ W.cell? ⟨bp, op + xn * 4 + 3, none⟩ = _ := fun W hW => ⟨bl_cell hW y4, bl_cell hW y5, bl_cell hW y6, bl_cell hW y7⟩
            have E4 : ∀ W, Below w.heap.size w W → W.cell? ⟨bn, on + xn * 4, none⟩ = _ ∧ W.cell? ⟨bn, on + xn * 4 + 1, none⟩ = _ ∧ W.cell? ⟨bn, on + xn * 4 + 2, none⟩ = _ ∧ W.cell? ⟨bn, on + xn * 4 + 3, none⟩ = _ := fun W hW => ⟨bl_cell hW y12, bl_cell hW y13, bl_cell hW y14, bl_cell hW y15⟩
            clear y4 y5 y6 y7 y12 y13 y14 y15
            go_wp2
            clear hc
            go_region_held3 (fun W => Below w.heap.size w W) (first | assumption | exact hbl6' _ | exact Below.drew (by assumption) | exact bl_trans (by assumption) (by assumption) | exact bl_trans (by assumption) (bl_alloc _ _) | exact hbl7) (first
              | (go_at_call 36; (with_reducible refine (refAt_calls (.slice G1 G.length g1) G k _ (hgA.below (by assumption))).mono ?_); rintro e w1 ⟨u1, rfl, hu1, hb1⟩; rw [← EA.out] at hu1; replace hu1 := hu1.below hb1; have hu1' := hu1; obtain ⟨A1, a1, A2, a2, rfl⟩ := hu1'.slices)
              | (go_at_call 36; (with_reducible refine (refAt_calls (.slice G2 G'.length g2) G' k _ (hgR.below (by assumption))).mono ?_); rintro e w2 ⟨u2, rfl, hu2, hb2⟩; rw [← ER.out] at hu2; replace hu2 := hu2.below hb2; have hu2' := hu2; obtain ⟨A5, a5, A6, a6, rfl⟩ := hu2'.slices)
              | (go_at_call 91; (with_reducible refine (hOwed_calls _ _ _ _ qa qp qr qn M _ (hu1.below hb2) (hqp.below (by assumption)) hu2 (hqn.below (by assumption)) HSX.out.1 HSX.out.2.1 HSX.out.2.2.1 HSX.out.2.2.2 HM.out.2).mono ?_); rintro e w6 ⟨q6, x6, HQ6, hS6, rfl, hN6, hb6⟩; have hb6' := bl_trans (bl_trans (bl_trans ((Below.refl wr.heap.size wr).drew) hb1) hb2) hb6; have hbl6 := bl_trans hb hb6'; have hbl6' := fun o => bl_trans hbl6 (bl_alloc w6 o); obtain ⟨v5, v6, rfl, ⟨r5, C5, m5, rfl, h5⟩, ⟨r6, C6, m6, rfl, h6⟩⟩ := hN6; obtain ⟨O7, oc7, w7, hr7, hO7, hbl7⟩ := all_grow hO hol (by omega) hb hb6' (NQ.mono ⟨_, _, rfl, ⟨r5, C5, m5, rfl, h5⟩, ⟨r6, C6, m6, rfl, h6⟩⟩ (Nat.le_trans hb1.size hb2.size)))
              | (refine step_append_run (by rfl) (by rfl) (by rfl) (by rfl) hr7 ?_))
            go_wp2
            go_roundw
            case rel =>
              refine ⟨k + 1, O7, oc7, out ++ [q6], by omega, by simp, by simp [hol], by simp [hol], by simpa [hol] using hO7, hbl7, Lib.hid fun j hj => ?_, Lib.hid fun j hj => ?_, Lib.hid fun q hq => ?_⟩
              · by_cases h : j < k
                · exact HOK.out j h
                · obtain rfl : j = k := by omega
                  rw [← HX.out]; omega
              · by_cases h : j < k
                · rw [List.getElem?_append_left (by omega)]; exact HOUT.out j h
                · obtain rfl : j = k := by omega
                  rw [List.getElem?_append_right (by omega), hol, Nat.sub_self, List.getElem?_cons_zero, HQ6.out, EA.out, EP.out, ER.out, EN.out]
                  unfold amt
                  rw [← HX.out, Int.toNat_natCast]
              · rcases List.mem_append.1 hq with h | h
                · exact HSO.out q h
                · simp at h; subst h; exact hS6
            case measure => simp [intOf]; omega
    · obtain rfl : k = xs.length := by omega
      go_wp2
      have hok : OkAt xs P.length P'.length := fun x hx => by
        obtain ⟨j, hj, rfl⟩ := List.getElem_of_mem hx
        have := HOK.out j hj
        rw [List.getD_eq_getElem?_getD, List.getElem?_eq_getElem hj] at this
        exact this
      refine bodyPost_ret (v := .tuple #[.slice O xs.length oc, .int .i64 0]) (by simp [results, Try.results27, go_sem]) rfl ⟨_, _, rfl, hb, .inl ⟨hok, rfl, out, Lib.hid ?_, HSO.out, hO⟩⟩
      apply List.ext_getElem?
      intro j
      by_cases hj : j < xs.length
      · rw [HOUT.out j hj]; simp [amts, hj]
      · rw [List.getElem?_eq_none (by omega), List.getElem?_eq_none (by simp [amts]; omega)]
end Go.Proofs.Ytnmmgegnioihmaa
