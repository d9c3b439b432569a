/- SettleNoDeviation: the walk. -/
import Derived.Test.YtnmmgegnioihmaaN1
import Derived.Test.YtnmmgegnioihmaaPC2
set_option linter.unusedVariables false
set_option linter.unusedSimpArgs false
namespace Go.Proofs.Ytnmmgegnioihmaa
open Go.RowKit

theorem min_at (m n : Nat) : ∀ ts t W, (Builtin.min_ ts t #[.int .i64 (m : Int), .int .i64 (n : Int)]).run Try.prog W = .ok (.int .i64 ((min m n : Nat) : Int)) W := fun ts t W => by
  rw [run_min_int2]; congr 2; split <;> omega
/-- Long, of one vector -/
theorem Long1 (X : World) (T : TypeId) (B : Option Addr) (d n m : Nat) (l : List Qr) (h : QRow X B d l) (hn : n = X.heap.size) (hm : m = l.length) :
    Calls Try.prog 31 #[.slice (some ⟨n, 0, none⟩) 1 1] (X.alloc (.cells #[.slice B m d] T)) fun e w' => ∃ b, e = .returned (.bool b) ∧ Below X.heap.size X w' := by
  refine (Long_calls _ 1 _ _ (litL X T B d m n l h hn hm) (by simp)).mono ?_
  rintro e w' ⟨b, he, _, hb⟩
  exact ⟨b, he, bl_trans (bl_alloc _ _) hb⟩
/-- long, of one market -/
theorem long1 (X : World) (T : TypeId) (B1 B2 B3 : Option Addr) (d1 d2 d3 n : Nat) (l1 l2 l3 : List Qr) (h1 : QRow X B1 d1 l1) (h2 : QRow X B2 d2 l2) (h3 : QRow X B3 d3 l3) (hn : n = X.heap.size) :
    Calls Try.prog 24 #[.slice (some ⟨n, 0, none⟩) 1 1] (X.alloc (.cells #[.slice B1 l1.length d1, .slice B2 l2.length d2, .slice B3 l3.length d3] T)) fun e w' => ∃ b, e = .returned (.bool b) ∧ Below X.heap.size X w' := by
  subst hn
  refine (long36_calls _ 1 [(l1, l2, l3)] _ ⟨by simp, by unfold maxLen; omega, fun _ => ⟨X.heap.size, 0, rfl, fun j s hj => ?_⟩⟩ (by simp)).mono ?_
  · match j, hj with
    | 0, hj =>
      simp at hj; subst hj
      refine ⟨B1, d1, B2, d2, B3, d3, ?_, ?_, ?_, h1.below (bl_alloc _ _), h2.below (bl_alloc _ _), h3.below (bl_alloc _ _)⟩ <;> (rw [cell_of_row _ _ _ _ _ _ (heap_alloc_new X _)]; rfl)
  · rintro e w' ⟨b, he, hb⟩
    exact ⟨b, he, bl_trans (bl_alloc _ _) hb⟩
/-- what participant k of n is owed, the row of it -/
theorem PostAll.okn {w w' : World} {xs : List Int} {P P' G G' : List Qr} {M : Nat} {e : Ending} (h : PostAll w xs P P' G G' M e w') (hok : OkAt xs P.length P'.length) :
    ∃ (l : List Qr) (A : Option Addr) (c : Nat), e = .returned (.tuple #[.slice A xs.length c, .int .i64 0]) ∧ Hid (∀ k, k < xs.length → (l.getD k zeroQ).val = amt xs P P' G G' k) ∧ l.length = xs.length ∧ Hid (∀ q ∈ l, q.S ≤ M) ∧ QRow w' A c l ∧ Below w.heap.size w w' := by
  obtain ⟨v, c, rfl, hb, h⟩ := h
  rcases h with ⟨_, rfl, l, HL, hS, hO⟩ | ⟨hn, _⟩
  · obtain ⟨A, c, rfl, _⟩ := hO.form
    have hl := HL.out
    have hll : l.length = xs.length := by rw [hl]; simp [amts]
    refine ⟨l, A, c, by rw [hll], Lib.hid fun k hk => ?_, hll, Lib.hid hS, hO.isR.row.2, hb⟩
    have e : l[k]? = some (canQ (amt xs P P' G G' k)) := by rw [hl]; simp [amts, hk]
    rw [List.getD_eq_getElem?_getD, e, Option.getD_some, canQ_val]
  · exact absurd hok hn
theorem okAt_of {xs : List Int} {n m k : Nat} (h : ∀ y ∈ xs, 0 ≤ y ∧ y < k) (h1 : k ≤ n) (h2 : k ≤ m) : OkAt xs n m := fun x hx => by
  have := h x hx; omega
set_option maxRecDepth 4000 in
set_option maxHeartbeats 8000000 in
theorem noDev_calls (A1 A2 P1 G1 T1 Q1 : Option Addr) (c1 c2 p1 g1 t1 q1 : Nat) (us bs : List Int) (P G T Q : List Qr) (M : Nat) (w : World) (hu : Row enc64 w A1 c1 us) (hbs : Row enc64 w A2 c2 bs) (ru : ∀ x ∈ us, -9223372036854775808 ≤ x ∧ x ≤ 9223372036854775807) (rb : ∀ x ∈ bs, -9223372036854775808 ≤ x ∧ x ≤ 9223372036854775807)
    (hP : QRow w P1 p1 P) (hG : QRow w G1 g1 G) (hT : QRow w T1 t1 T) (hQ : QRow w Q1 q1 Q) (sP : ∀ q ∈ P, q.S ≤ M) (sG : ∀ q ∈ G, q.S ≤ M) (sT : ∀ q ∈ T, q.S ≤ M) (sQ : ∀ q ∈ Q, q.S ≤ M) (h1 : 1 ≤ M) (hM : M ≤ 1099511627) (hPl : P.length ≤ 1099511627776) :
    Calls Try.prog 4 #[.slice A1 us.length c1, .slice A2 bs.length c2, .agg #[.slice P1 P.length p1, .slice G1 G.length g1, .slice T1 T.length t1], .slice Q1 Q.length q1] w fun e w' => e = .returned (.bool true) ∧ Below w.heap.size w w' := by
  have HS := Lib.hid (And.intro sP (And.intro sG (And.intro sT (And.intro sQ (And.intro ru rb)))))
  clear sP sG sT sQ ru rb
  have hmin := min_at P.length Q.length
  obtain ⟨n, hn⟩ : ∃ n, n = min P.length Q.length := ⟨_, rfl⟩
  have HN := Lib.hid hn
  rw [← hn] at hmin
  clear hn
  go_enter Try.func4, Try.ntmps4
  go_upto_region 2 with fail
  clear hmin
  generalize hw0 : World.alloc _ _ = w0
  have hb0 : Below w.heap.size w w0 := by subst hw0; exact bl_alloc _ _
  have b1 : Thr w0 w.heap.size (.slice P1 P.length p1) (.slice G1 G.length g1) (.slice T1 T.length t1) := by subst hw0; exact Thr.new w _ _ _ _
  clear hw0
  have aw : ∀ W, Calls Try.prog 25 #[] W fun e w' => e = .returned (.bool true) ∧ Below W.heap.size W w' := awake36_calls
  obtain ⟨u0, u1, u2⟩ := b1
  by_cases hn0 : n = 0
  · subst hn0
    go_wp2_with (go_at_call 25; (with_reducible refine (awake36_calls _).mono ?_); rintro e w1 ⟨rfl, hb1⟩)
    go_ret
    exact ⟨rfl, bl_trans hb0 hb1⟩
  by_cases hul : 12 < us.length
  · go_wp2_with (go_at_call 25; (with_reducible refine (awake36_calls _).mono ?_); rintro e w1 ⟨rfl, hb1⟩)
    go_ret
    exact ⟨rfl, bl_trans hb0 hb1⟩
  by_cases hbl : 12 < bs.length
  · go_wp2_with (go_at_call 25; (with_reducible refine (awake36_calls _).mono ?_); rintro e w1 ⟨rfl, hb1⟩)
    go_ret
    exact ⟨rfl, bl_trans hb0 hb1⟩
  have hd0 : ((n : Int) == 0) = false := by simp; omega
  have hd1 : decide ((12 : Int) < (us.length : Int)) = false := by simp; omega
  have hd2 : decide ((12 : Int) < (bs.length : Int)) = false := by simp; omega
  go_upto_region 4 with (first
    | (go_at_call 25; (with_reducible refine (awake36_calls _).mono ?_); rintro e w3 ⟨rfl, hb3⟩)
    | (go_at_call 31; (with_reducible refine (Long1 _ _ _ _ _ _ Q ((hQ.below hb0).below hb1) rfl rfl).mono ?_); rintro e w2 ⟨b, rfl, hb2⟩; cases b)
    | (go_at_call 24; (with_reducible refine (long1 _ _ _ _ _ _ _ _ _ P G T (hP.below hb0) (hG.below hb0) (hT.below hb0) rfl).mono ?_); rintro e w1 ⟨b, rfl, hb1⟩; cases b))
  all_goals (try (exact bodyPost_ret (v := .bool true) (by simp [results, Try.results4, go_sem]) rfl ⟨rfl, by first | exact bl_trans hb0 (bl_trans hb1 (bl_trans hb2 hb3)) | exact bl_trans hb0 (bl_trans hb1 hb3)⟩))
  have n3 := bl_trans hb1 (bl_trans hb2 hb3)
  have m3 := bl_trans hb0 n3
  have b3 : Thr w3 w.heap.size (.slice P1 P.length p1) (.slice G1 G.length g1) (.slice T1 T.length t1) := Thr.below ⟨u0, u1, u2⟩ n3
  clear u0 u1 u2 hd0 hd1 hd2
  go_upto_region 8 with (first
    | (go_at_call 28; have _h := hb6; (with_reducible refine (settle_Bids_calls B5 d5 zs P1 Q1 T1 T1 G1 G1 _ _ _ _ _ _ _ _ P Q T T M _ (hz.below (bl_trans (bl_alloc _ _) hb6)) (by have := hzl.out; omega) (hP.below m7) (hQ.below m7) (hT.below m7) (hT.below m7) HS.out.1 HS.out.2.2.2.1 HS.out.2.2.1 HS.out.2.2.1 h1 (by omega)).mono ?_); rintro e w7 h7; obtain ⟨ly, Y, yc, rfl, HY, hly, HSY, Ry, hb7⟩ := h7.okn (okAt_of hzr (by have := HN.out; omega) (by have := HN.out; omega)); replace hly := Lib.hid hly)
    | (go_at_call 27; (with_reducible refine (settle_Units_calls B4 d4 ys P1 Q1 G1 G1 T1 T1 _ _ _ _ _ _ _ _ P Q G G M _ ((hy.below hb5).below (bl_alloc _ _)) (by have := hyl.out; omega) ((hP.below m5).below (bl_alloc _ _)) ((hQ.below m5).below (bl_alloc _ _)) ((hG.below m5).below (bl_alloc _ _)) ((hG.below m5).below (bl_alloc _ _)) HS.out.1 HS.out.2.2.2.1 HS.out.2.1 HS.out.2.1 h1 (by omega)).mono ?_); rintro e w6 h6; obtain ⟨lx, X, xc, rfl, HX, hlx, HSX, Rx, hb6⟩ := h6.okn (okAt_of hyr (by have := HN.out; omega) (by have := HN.out; omega)); replace hlx := Lib.hid hlx; have m7 := bl_trans m5 (bl_trans (bl_alloc _ _) hb6); have T6 := b5.below (bl_trans (bl_alloc _ _) hb6); have T66 := (Thr.new w5 (.slice Q1 Q.length q1) (.slice G1 G.length g1) (.slice T1 T.length t1) _).below hb6; obtain ⟨k0, k1, k2⟩ := T6; obtain ⟨k3, k4, k5⟩ := T66)
    | (go_at_call 32; have _h := hb4; (with_reducible refine (at36_calls A2 c2 bs n _ (hbs.below (bl_trans m3 hb4)) HS.out.2.2.2.2.2 (by omega) (by have := HN.out; omega) (by omega)).mono ?_); rintro e w5 ⟨zs, B5, d5, rfl, hzl, hzr, hz, hb5⟩; replace hzl := Lib.hid hzl; have m5 := bl_trans m3 (bl_trans hb4 hb5); have b5 := b3.below (bl_trans hb4 hb5); obtain ⟨v0, v1, v2⟩ := b5; have b5 : Thr w5 w.heap.size (.slice P1 P.length p1) (.slice G1 G.length g1) (.slice T1 T.length t1) := ⟨v0, v1, v2⟩; obtain ⟨V0, V1, V2⟩ := b5.one)
    | (go_at_call 32; (with_reducible refine (at36_calls A1 c1 us n _ (hu.below m3) HS.out.2.2.2.2.1 (by omega) (by have := HN.out; omega) (by omega)).mono ?_); rintro e w4 ⟨ys, B4, d4, rfl, hyl, hyr, hy, hb4⟩; replace hyl := Lib.hid hyl))
  have n7 := bl_trans m7 hb7
  have hyb : ys.length ≤ 12 := by have := hyl.out; omega
  have hzb : zs.length ≤ 12 := by have := hzl.out; omega
  have RP := hP.below n7
  have RG := hG.below n7
  have RT := hT.below n7
  replace hy := hy.below (bl_trans hb5 (bl_trans (bl_alloc _ _) (bl_trans hb6 hb7)))
  replace hz := hz.below (bl_trans (bl_alloc _ _) (bl_trans hb6 hb7))
  replace Rx := Rx.below hb7
  have TB : Thr w7 w.heap.size (.slice P1 P.length p1) (.slice G1 G.length g1) (.slice T1 T.length t1) := Thr.below ⟨k0, k1, k2⟩ hb7
  clear k0 k1 k2 k3 k4 k5 v0 v1 v2 V0 V1 V2 b3 b5 h6 h7 hu hbs
  go_wp2
  go_loopw [17] (fun i wr => ∃ k : Nat, k ≤ ys.length ∧ i = .int .i64 k ∧ Below w7.heap.size w7 wr) (fun i _ => ys.length - (intOf i).toNat)
  case atStart => exact ⟨0, Nat.zero_le _, rfl, Below.refl _ _⟩
  case round =>
    obtain ⟨k, hk, rfl, hb⟩ := hrel
    by_cases hlt : k < ys.length
    · obtain ⟨bx, ox, rfl, hc⟩ := row64_at (hy.below hb) hlt
      have hyk := hyr (ys.getD k 0) (by rw [List.getD_eq_getElem?_getD, List.getElem?_eq_getElem hlt]; simp)
      have hval := HX.out k hlt
      unfold amt at hval
      obtain ⟨y, hye⟩ : ∃ y, y = ys.getD k 0 := ⟨_, rfl⟩
      rw [← hye] at hc hyk hval
      clear hye
      obtain ⟨yn, rfl⟩ : ∃ yn : Nat, y = yn := ⟨y.toNat, by omega⟩
      rw [Int.toNat_natCast] at hval
      have hyP : yn < P.length := by have := HN.out; omega
      have hkx : k < lx.length := by have := hlx.out; omega
      obtain ⟨ba, oa, A3, a3, A4, a4, rfl, y0, y1, y2, y3, hqa⟩ := (Rx.below hb).at hkx
      obtain ⟨bp, op, A5, a5, A6, a6, rfl, y4, y5, y6, y7, hqp⟩ := (RP.below hb).at hyP
      have sa := getD_S HSX.out (by omega) k
      have sp := getD_S HS.out.1 h1 yn
      have sg := getD_S HS.out.2.1 h1 k
      obtain ⟨qa, ea⟩ : ∃ q, q = lx.getD k zeroQ := ⟨_, rfl⟩
      obtain ⟨qp, ep⟩ : ∃ q, q = P.getD yn zeroQ := ⟨_, rfl⟩
      obtain ⟨qg, eg⟩ : ∃ q, q = G.getD k zeroQ := ⟨_, rfl⟩
      have EG := Lib.hid eg
      rw [← ea, ← ep, ← eg] at hval
      rw [← ea] at y0 y1 y2 y3 hqa sa
      rw [← ep] at y4 y5 y6 y7 hqp sp
      rw [← eg] at sg
      clear ea ep eg
      have HV := Lib.hid hval
      have HSQ := Lib.hid (And.intro sa (And.intro sp sg))
      clear hval sa sp sg
      have E1 : BoxE wr wr (fun _ => False) ba (oa + k * 4) _ _ _ _ := fun W hW => ⟨bl_cell hW.b y0, bl_cell hW.b y1, bl_cell hW.b y2, bl_cell hW.b y3⟩
      have E2 : BoxE wr wr (fun _ => False) bp (op + yn * 4) _ _ _ _ := fun W hW => ⟨bl_cell hW.b y4, bl_cell hW.b y5, bl_cell hW.b y6, bl_cell hW.b y7⟩
      have E3 : ∀ W, Fr wr wr (fun _ => False) W → W.cell? ⟨bx, ox + k, none⟩ = some (.int .i64 (yn : Int)) := fun W hW => bl_cell hW.b hc
      have E4 : ∀ W, Fr wr wr (fun _ => False) W → W.cell? ⟨w.heap.size, 0, none⟩ = some (.slice (some ⟨bp, op, none⟩) P.length p1) ∧ W.cell? ⟨w.heap.size, 1, none⟩ = some (.slice G1 G.length g1) := fun W hW => ⟨bl_cell (bl_trans hb hW.b) TB.1, bl_cell (bl_trans hb hW.b) TB.2.1⟩
      clear y0 y1 y2 y3 y4 y5 y6 y7 hc
      have f0 : Fr wr wr (fun _ => False) wr := Fr.start (Below.refl _ _)
      go_wp2
      go_region_held3 (fun W => Fr wr wr (fun _ => False) W) (first | assumption | exact Fr.drew (by assumption) | exact Fr.call (by assumption) (by assumption)) (first
        | (go_at_call 35; (with_reducible refine (refAt_calls _ G k _ ((RG.isR).below (bl_trans hb (Fr.b (by assumption))))).mono ?_); rintro e w11 ⟨v11, rfl, hq11, hb11⟩; rw [← EG.out] at hq11; have hq11' := hq11.below hb11; obtain ⟨A7, a7, A8, a8, rfl⟩ := hq11.slices)
        | (go_at_call 34; (with_reducible refine (frac_Mul_calls _ _ qp qg _ (hqp.below (Fr.b (by assumption))) hq11' (by have := HSQ.out; omega)).mono ?_); rintro e w12 ⟨q12, v12, HQ12, hS12, rfl, hN12, hb12⟩; have hq12 := hN12.is; obtain ⟨A9, a9, A10, a10, rfl⟩ := hq12.slices)
        | (go_at_call 33; (with_reducible refine (frac_Equal_calls _ _ qa q12 _ (hqa.below (Fr.b (by assumption))) hq12 (by have := HSQ.out; omega)).mono ?_); rintro e w13 ⟨rfl, hb13⟩; rw [decide_eq_true (by rw [HV.out, HQ12.out, canQ_val]; unfold owedR; grind)]; have f13 := Fr.call (by assumption) hb13))
      go_wp2
      go_roundw
      case rel => exact ⟨k + 1, by omega, by simp, bl_trans hb f13.b⟩
      case measure => simp [intOf]; omega
    · obtain rfl : k = ys.length := by omega
      have hb8 := hb
      go_wp2
      go_loopw [18] (fun i wr => ∃ k : Nat, k ≤ zs.length ∧ i = .int .i64 k ∧ Below w7.heap.size w7 wr) (fun i _ => zs.length - (intOf i).toNat)
      case atStart => exact ⟨0, Nat.zero_le _, rfl, hb8⟩
      case round =>
        obtain ⟨k, hk, rfl, hb⟩ := hrel
        by_cases hlt : k < zs.length
        · obtain ⟨bx, ox, rfl, hc⟩ := row64_at (hz.below hb) hlt
          have hyk := hzr (zs.getD k 0) (by rw [List.getD_eq_getElem?_getD, List.getElem?_eq_getElem hlt]; simp)
          have hval := HY.out k hlt
          unfold amt at hval
          obtain ⟨y, hye⟩ : ∃ y, y = zs.getD k 0 := ⟨_, rfl⟩
          rw [← hye] at hc hyk hval
          clear hye
          obtain ⟨yn, rfl⟩ : ∃ yn : Nat, y = yn := ⟨y.toNat, by omega⟩
          rw [Int.toNat_natCast] at hval
          have hyP : yn < P.length := by have := HN.out; omega
          have hkx : k < ly.length := by have := hly.out; omega
          obtain ⟨ba, oa, A3, a3, A4, a4, rfl, y0, y1, y2, y3, hqa⟩ := (Ry.below hb).at hkx
          obtain ⟨bp, op, A5, a5, A6, a6, rfl, y4, y5, y6, y7, hqp⟩ := (RP.below hb).at hyP
          have sa := getD_S HSY.out (by omega) k
          have sp := getD_S HS.out.1 h1 yn
          have sg := getD_S HS.out.2.2.1 h1 k
          obtain ⟨qa, ea⟩ : ∃ q, q = ly.getD k zeroQ := ⟨_, rfl⟩
          obtain ⟨qp, ep⟩ : ∃ q, q = P.getD yn zeroQ := ⟨_, rfl⟩
          obtain ⟨qg, eg⟩ : ∃ q, q = T.getD k zeroQ := ⟨_, rfl⟩
          have EG := Lib.hid eg
          rw [← ea, ← ep, ← eg] at hval
          rw [← ea] at y0 y1 y2 y3 hqa sa
          rw [← ep] at y4 y5 y6 y7 hqp sp
          rw [← eg] at sg
          clear ea ep eg
          have HV := Lib.hid hval
          have HSQ := Lib.hid (And.intro sa (And.intro sp sg))
          clear hval sa sp sg
          have E1 : BoxE wr wr (fun _ => False) ba (oa + k * 4) _ _ _ _ := fun W hW => ⟨bl_cell hW.b y0, bl_cell hW.b y1, bl_cell hW.b y2, bl_cell hW.b y3⟩
          have E2 : BoxE wr wr (fun _ => False) bp (op + yn * 4) _ _ _ _ := fun W hW => ⟨bl_cell hW.b y4, bl_cell hW.b y5, bl_cell hW.b y6, bl_cell hW.b y7⟩
          have E3 : ∀ W, Fr wr wr (fun _ => False) W → W.cell? ⟨bx, ox + k, none⟩ = some (.int .i64 (yn : Int)) := fun W hW => bl_cell hW.b hc
          have E4 : ∀ W, Fr wr wr (fun _ => False) W → W.cell? ⟨w.heap.size, 0, none⟩ = some (.slice (some ⟨bp, op, none⟩) P.length p1) ∧ W.cell? ⟨w.heap.size, 2, none⟩ = some (.slice T1 T.length t1) := fun W hW => ⟨bl_cell (bl_trans hb hW.b) TB.1, bl_cell (bl_trans hb hW.b) TB.2.2⟩
          clear y0 y1 y2 y3 y4 y5 y6 y7 hc
          have f0 : Fr wr wr (fun _ => False) wr := Fr.start (Below.refl _ _)
          go_wp2
          go_region_held3 (fun W => Fr wr wr (fun _ => False) W) (first | assumption | exact Fr.drew (by assumption) | exact Fr.call (by assumption) (by assumption)) (first
            | (go_at_call 35; (with_reducible refine (refAt_calls _ T k _ ((RT.isR).below (bl_trans hb (Fr.b (by assumption))))).mono ?_); rintro e w11 ⟨v11, rfl, hq11, hb11⟩; rw [← EG.out] at hq11; have hq11' := hq11.below hb11; obtain ⟨A7, a7, A8, a8, rfl⟩ := hq11.slices)
            | (go_at_call 34; (with_reducible refine (frac_Mul_calls _ _ qp qg _ (hqp.below (Fr.b (by assumption))) hq11' (by have := HSQ.out; omega)).mono ?_); rintro e w12 ⟨q12, v12, HQ12, hS12, rfl, hN12, hb12⟩; have hq12 := hN12.is; obtain ⟨A9, a9, A10, a10, rfl⟩ := hq12.slices)
            | (go_at_call 33; (with_reducible refine (frac_Equal_calls _ _ qa q12 _ (hqa.below (Fr.b (by assumption))) hq12 (by have := HSQ.out; omega)).mono ?_); rintro e w13 ⟨rfl, hb13⟩; rw [decide_eq_true (by rw [HV.out, HQ12.out, canQ_val]; unfold owedR; grind)]; have f13 := Fr.call (by assumption) hb13))
          go_wp2
          go_roundw
          case rel => exact ⟨k + 1, by omega, by simp, bl_trans hb f13.b⟩
          case measure => simp [intOf]; omega
        · obtain rfl : k = zs.length := by omega
          go_wp2
          go_ret
          exact ⟨rfl, bl_trans n7 hb⟩
end Go.Proofs.Ytnmmgegnioihmaa
