/- Package settle: Units, Bids. -/
import Derived.Test.YtnmmgegnioihmaaSett1
import Derived.WideMake
import Derived.Laws.MakeOwn
set_option linter.unusedVariables false
set_option linter.unusedSimpArgs false
namespace Go.Proofs.Ytnmmgegnioihmaa
open Go.RowKit

theorem run_make_Q (n : Nat) (hn : n ≤ 65536) : ∀ w : World, (Instr.makeSlice 23 (.int .i64 (n : Int)) (.int .i64 (n : Int))).run Try.prog w = .ok (.slice (some ⟨w.heap.size, 0, none⟩) n n) (w.alloc (.cells (madeCells #[.bool false, .slice none 0 0, .bool false, .slice none 0 0] (n * 4)) 43)) := fun w => by
  obtain ⟨i, hi, hz, hsz, hby⟩ := info_Q_parts
  have hr := run_make (P := Try.prog) w 23 43 i _ und_Qs hi hz .i64 .i64 n n (by omega) (by omega) (by rw [hby]; omega) (by omega)
  simp only [Int.toNat_natCast, hsz] at hr
  exact hr
set_option maxHeartbeats 1000000 in
theorem side_Gen_calls (A B C : Option Addr) (a a' b b' c c' : Nat) (w : World) : Calls Try.prog 91 #[.agg #[.slice A a a', .slice B b b', .slice C c c']] w fun e w' => e = .returned (.slice B b b') ∧ Below w.heap.size w w' := by
  go_enter Try.func91, Try.ntmps91
  go_wp2
  go_ret
  exact ⟨rfl, bl_alloc _ _⟩
set_option maxHeartbeats 1000000 in
theorem side_Take_calls (A B C : Option Addr) (a a' b b' c c' : Nat) (w : World) : Calls Try.prog 93 #[.agg #[.slice A a a', .slice B b b', .slice C c c']] w fun e w' => e = .returned (.slice C c c') ∧ Below w.heap.size w w' := by
  go_enter Try.func93, Try.ntmps93
  go_wp2
  go_ret
  exact ⟨rfl, bl_alloc _ _⟩
/-- every bus is known -/
def OkAt (xs : List Int) (n m : Nat) : Prop := ∀ x ∈ xs, 0 ≤ x ∧ x < n ∧ x < m
/-- what participant k owes or is owed -/
def amt (xs : List Int) (P P' G G' : List Qr) (k : Nat) : Rat := owedR (G.getD k zeroQ).val (P.getD (xs.getD k 0).toNat zeroQ).val (G'.getD k zeroQ).val (P'.getD (xs.getD k 0).toNat zeroQ).val
def amts (xs : List Int) (P P' G G' : List Qr) (n : Nat) : List Rat := (List.range n).map (amt xs P P' G G')
def PostAll (w : World) (xs : List Int) (P P' G G' : List Qr) (M : Nat) (e : Ending) (w' : World) : Prop := ∃ v c, e = .returned (.tuple #[v, .int .i64 c]) ∧ Below w.heap.size w w' ∧
  ((OkAt xs P.length P'.length ∧ c = 0 ∧ ∃ l, Hid (l = (amts xs P P' G G' xs.length).map canQ) ∧ (∀ q ∈ l, q.S ≤ M) ∧ OwnQ w.heap.size w' v l) ∨ (¬ OkAt xs P.length P'.length ∧ c = 1 ∧ v = .slice none 0 0))
abbrev BoxE (w w0 : World) (K : Nat → Prop) (k o : Nat) (a b c d : Value) : Prop := ∀ W, Fr w w0 K W → W.cell? ⟨k, o, none⟩ = some a ∧ W.cell? ⟨k, o + 1, none⟩ = some b ∧ W.cell? ⟨k, o + 2, none⟩ = some c ∧ W.cell? ⟨k, o + 3, none⟩ = some d
/-- a struct of three cells that is read -/
abbrev Box3 (w w0 : World) (k : Nat) (a b c : Value) : Prop := ∀ W, Fr w w0 (fun _ => False) W → W.cell? ⟨k, 0, none⟩ = some a ∧ W.cell? ⟨k, 1, none⟩ = some b ∧ W.cell? ⟨k, 2, none⟩ = some c
theorem Box3.mk {w w0 : World} {k : Nat} {a b c : Value} (h : w0.cell? ⟨k, 0, none⟩ = some a ∧ w0.cell? ⟨k, 1, none⟩ = some b ∧ w0.cell? ⟨k, 2, none⟩ = some c) : Box3 w w0 k a b c :=
  fun W hW => ⟨Fr.cell h.1 (fun h => h) W hW, Fr.cell h.2.1 (fun h => h) W hW, Fr.cell h.2.2 (fun h => h) W hW⟩
theorem Fr.putE {w w0 : World} {K : Nat → Prop} {W : World} (h : Fr w w0 K W) {k : Nat} (hK : K k) (hp : w.heap.size ≤ k) (o : Nat) (a b c d : Value) : Fr w w0 K ((((W.setCell ⟨k, o, none⟩ a).setCell ⟨k, o + 1, none⟩ b).setCell ⟨k, o + 2, none⟩ c).setCell ⟨k, o + 3, none⟩ d) :=
  (((h.setCell (p := ⟨k, o, none⟩) hK hp a).setCell (p := ⟨k, o + 1, none⟩) hK hp b).setCell (p := ⟨k, o + 2, none⟩) hK hp c).setCell (p := ⟨k, o + 3, none⟩) hK hp d
theorem OwnQ.mono {base b' : Nat} {w : World} {v : Value} {l : List Qr} (h : OwnQ base w v l) (hb : b' ≤ base) : OwnQ b' w v l := by
  obtain ⟨xs, ho, hx⟩ := h
  refine ⟨xs, ⟨ho.1, ?_⟩, hx⟩
  rcases ho.2 with h0 | ⟨g, cap, cur, e, hg, r⟩
  · exact .inl h0
  · exact .inr ⟨g, cap, cur, e, Nat.le_trans hb hg, r⟩
theorem pad_val {l : List Qr} {n k : Nat} (hk : k < n) : (((padR l n).map canQ).getD k zeroQ).val = (l.getD k zeroQ).val := by
  have e : ((padR l n).map canQ)[k]? = some (canQ (l.getD k zeroQ).val) := by simp [padR, hk]
  rw [List.getD_eq_getElem?_getD, e, Option.getD_some, canQ_val]
set_option maxHeartbeats 4000000 in
theorem all_Units_calls (A : Option Addr) (ac : Nat) (xs : List Int) (P1 P2 G1 G2 T1 T2 : Option Addr) (p1 p2 g1 g2 t1 t1' t2 t2' : Nat) (P P' G G' : List Qr) (M : Nat) (w : World) (hxs : Row enc64 w A ac xs) (hxl : xs.length ≤ 65536)
    (hP : QRow w P1 p1 P) (hP' : QRow w P2 p2 P') (hG : QRow w G1 g1 G) (hG' : QRow w G2 g2 G') (sP : ∀ q ∈ P, q.S ≤ M) (sP' : ∀ q ∈ P', q.S ≤ M) (sG : ∀ q ∈ G, q.S ≤ M) (sG' : ∀ q ∈ G', q.S ≤ M) (h1 : 1 ≤ M) (hM : M ≤ 274877906944) :
    Calls Try.prog 92 #[.agg #[.func (.func 91) #[] #[]], .slice A xs.length ac, .agg #[.slice P1 P.length p1, .slice G1 G.length g1, .slice T1 t1 t1'], .agg #[.slice P2 P'.length p2, .slice G2 G'.length g2, .slice T2 t2 t2']] w (PostAll w xs P P' G G' (5 * M + 3)) := by
  have hmin : (min (max (xs.length : Int) 0) 65536).toNat = xs.length := by omega
  have HS := Lib.hid (And.intro sP (And.intro sP' (And.intro sG sG')))
  clear sP sP' sG sG'
  go_enter Try.func92, Try.ntmps92
  go_wp2
  generalize hw0 : World.alloc _ _ = w0
  have hb0 : Below w.heap.size w w0 := by subst hw0; exact bl_alloc2 (bl_alloc2 (bl_alloc _ _) _) _
  have t0 : ∀ W, Fr w w0 (fun _ => False) W → W.cell? ⟨w.heap.size, 0, none⟩ = some (.func (.func 91) #[] #[]) := Fr.cell (by subst hw0; go_simp) (fun h => h)
  have b1 : Box3 w w0 (w.heap.size + 1) (.slice P1 P.length p1) (.slice G1 G.length g1) (.slice T1 t1 t1') := Box3.mk (by subst hw0; refine ⟨?_, ?_, ?_⟩ <;> go_simp)
  have b2 : Box3 w w0 (w.heap.size + 2) (.slice P2 P'.length p2) (.slice G2 G'.length g2) (.slice T2 t2 t2') := Box3.mk (by subst hw0; refine ⟨?_, ?_, ?_⟩ <;> go_simp)
  have f0 : Fr w w0 (fun _ => False) w0 := Fr.start hb0
  clear hw0
  go_region_held3 (fun W => Fr w w0 (fun _ => False) W) (first | assumption | exact Fr.drew (by assumption) | exact Fr.call (by assumption) (by assumption)) (first
    | (go_at_call 91; (with_reducible refine (side_Gen_calls P1 G1 T1 _ _ _ _ _ _ _).mono ?_); rintro e w1 ⟨rfl, hb1⟩)
    | (go_at_call 55; (with_reducible refine (vec_Resize_calls G1 _ G _ M _ ((hG.isR).below (Fr.b (by assumption))) HS.out.2.2.1 h1 (by omega)).mono ?_); rintro e w2 ⟨l1, x1, HL1, hS1, rfl, hO1, hb2⟩; obtain ⟨D1, d1, rfl, _⟩ := hO1.form)
    | (go_at_call 91; (with_reducible refine (side_Gen_calls P2 G2 T2 _ _ _ _ _ _ _).mono ?_); rintro e w3 ⟨rfl, hb3⟩)
    | (go_at_call 55; (with_reducible refine (vec_Resize_calls G2 _ G' _ M _ ((hG'.isR).below (Fr.b (by assumption))) HS.out.2.2.2 h1 (by omega)).mono ?_); rintro e w4 ⟨l2, x2, HL2, hS2, rfl, hO2, hb4⟩; have f4 := Fr.call (by assumption) hb4; obtain ⟨D2, d2, rfl, _⟩ := hO2.form))
  rw [hmin] at HL1 HL2
  have hl1 : Hid (l1.length = xs.length) := Lib.hid (by rw [HL1.out]; simp [padR])
  have hl2 : Hid (l2.length = xs.length) := Lib.hid (by rw [HL2.out]; simp [padR])
  have hmk := run_make_Q xs.length hxl
  have hR1 := (hO1.isR.below (bl_trans hb3 hb4)).row.2
  have hR2 := hO2.isR.row.2
  have hP4 := hP.below f4.b
  have hP4' := hP'.below f4.b
  have hx4 := hxs.below f4.b
  have HS1 := Lib.hid hS1
  have HS2 := Lib.hid hS2
  clear hO1 hO2 hb1 hb2 hb3 t0 f0 hb0 hxs hP hP' hG hG' hS1 hS2
  go_wp2
  clear hmk
  generalize hw5 : World.alloc _ _ = w5
  have hO5 : OwnQ w4.heap.size w5 (.slice (some ⟨w4.heap.size, 0, none⟩) xs.length xs.length) (List.replicate xs.length zeroQ) := by subst hw5; exact OwnQ.made _ _ (by unfold maxLen; omega) _ rfl
  have hb5 : Below w4.heap.size w4 w5 := by subst hw5; exact bl_alloc _ _
  clear hw5
  go_loopw [34] (fun i wr => ∃ (k : Nat) (out : List Qr), k ≤ xs.length ∧ i = .int .i64 k ∧ out.length = xs.length ∧ OwnQ w4.heap.size wr (.slice (some ⟨w4.heap.size, 0, none⟩) xs.length xs.length) out ∧ Below w4.heap.size w4 wr ∧
    Hid (∀ j, j < k → 0 ≤ xs.getD j 0 ∧ xs.getD j 0 < P.length ∧ xs.getD j 0 < P'.length) ∧ Hid (∀ j, j < k → out[j]? = some (canQ (amt xs P P' G G' j))) ∧ Hid (∀ q ∈ out, q.S ≤ 5 * M + 3)) (fun i _ => xs.length - (intOf i).toNat)
  case atStart => exact ⟨0, _, Nat.zero_le _, rfl, List.length_replicate, hO5, hb5, Lib.hid (fun j hj => by omega), Lib.hid (fun j hj => by omega), Lib.hid (fun q hq => by rw [List.eq_of_mem_replicate hq, zeroQ_S]; omega)⟩
  case round =>
    obtain ⟨k, out, hk, rfl, hol, hO, hb, HOK, HOUT, HSO⟩ := hrel
    clear hO5 hb5
    by_cases hlt : k < xs.length
    · obtain ⟨bx, ox, rfl, hc⟩ := row64_at (hx4.below hb) hlt
      obtain ⟨x, hxe⟩ : ∃ x, x = xs.getD k 0 := ⟨_, rfl⟩
      have HX := Lib.hid hxe
      rw [← hxe] at hc
      clear hxe
      have fr := f4.call hb
      obtain ⟨u0, u1, u2⟩ := b1 _ fr
      obtain ⟨w0', w1', w2'⟩ := b2 _ fr
      have hbad : ¬ (0 ≤ x ∧ x < P.length ∧ x < P'.length) → ¬ OkAt xs P.length P'.length := fun hn h => hn (h x (by rw [HX.out, List.getD_eq_getElem?_getD, List.getElem?_eq_getElem hlt]; simp))
      by_cases c1 : x < 0
      · go_wp2
        exact bodyPost_ret (v := .tuple #[.slice none 0 0, .int .i64 1]) (by simp [results, Try.results92, go_sem]) rfl ⟨_, _, rfl, fr.b, .inr ⟨hbad (by omega), rfl, rfl⟩⟩
      · by_cases c2 : (P.length : Int) ≤ x
        · go_wp2
          exact bodyPost_ret (v := .tuple #[.slice none 0 0, .int .i64 1]) (by simp [results, Try.results92, go_sem]) rfl ⟨_, _, rfl, fr.b, .inr ⟨hbad (by omega), rfl, rfl⟩⟩
        · by_cases c3 : (P'.length : Int) ≤ x
          · go_wp2
            exact bodyPost_ret (v := .tuple #[.slice none 0 0, .int .i64 1]) (by simp [results, Try.results92, go_sem]) rfl ⟨_, _, rfl, fr.b, .inr ⟨hbad (by omega), rfl, rfl⟩⟩
          · clear hbad
            obtain ⟨xn, rfl⟩ : ∃ xn : Nat, x = xn := ⟨x.toNat, by omega⟩
            have hx1 : xn < P.length := by omega
            have hx2 : xn < P'.length := by omega
            have hk1 : k < l1.length := by have := hl1.out; omega
            have hk2 : k < l2.length := by have := hl2.out; omega
            obtain ⟨ba, oa, A1, a1, A2, a2, rfl, y0, y1, y2, y3, hqa⟩ := hR1.at hk1
            obtain ⟨bp, op, A3, a3, A4, a4, rfl, y4, y5, y6, y7, hqp⟩ := hP4.at hx1
            obtain ⟨br, or, A5, a5, A6, a6, rfl, y8, y9, y10, y11, hqr⟩ := hR2.at hk2
            obtain ⟨bn, on, A7, a7, A8, a8, rfl, y12, y13, y14, y15, hqn⟩ := hP4'.at hx2
            have sa := getD_S HS1.out (by omega) k
            have sp := getD_S HS.out.1 h1 xn
            have sr := getD_S HS2.out (by omega) k
            have sn := getD_S HS.out.2.1 h1 xn
            obtain ⟨qa, ea⟩ : ∃ q, q = l1.getD k zeroQ := ⟨_, rfl⟩
            obtain ⟨qp, ep⟩ : ∃ q, q = P.getD xn zeroQ := ⟨_, rfl⟩
            obtain ⟨qr, er⟩ : ∃ q, q = l2.getD k zeroQ := ⟨_, rfl⟩
            obtain ⟨qn, en⟩ : ∃ q, q = P'.getD xn zeroQ := ⟨_, rfl⟩
            have EA := Lib.hid ea
            have EP := Lib.hid ep
            have ER := Lib.hid er
            have EN := Lib.hid en
            rw [← ea] at y0 y1 y2 y3 hqa sa
            rw [← ep] at y4 y5 y6 y7 hqp sp
            rw [← er] at y8 y9 y10 y11 hqr sr
            rw [← en] at y12 y13 y14 y15 hqn sn
            clear ea ep er en
            have HSX := Lib.hid (And.intro sa (And.intro sp (And.intro sr sn)))
            have HLO : Hid (8 * (2 * qa.S + qp.S + qr.S + qn.S) + 8 ≤ 35184372088832) := Lib.hid (by omega)
            clear sa sp sr sn
            have E1 : BoxE w4 wr (· = w4.heap.size) ba (oa + k * 4) _ _ _ _ := fun W hW => ⟨bl_cell hW.b y0, bl_cell hW.b y1, bl_cell hW.b y2, bl_cell hW.b y3⟩
            have E2 : BoxE w4 wr (· = w4.heap.size) bp (op + xn * 4) _ _ _ _ := fun W hW => ⟨bl_cell hW.b y4, bl_cell hW.b y5, bl_cell hW.b y6, bl_cell hW.b y7⟩
            have E3 : BoxE w4 wr (· = w4.heap.size) br (or + k * 4) _ _ _ _ := fun W hW => ⟨bl_cell hW.b y8, bl_cell hW.b y9, bl_cell hW.b y10, bl_cell hW.b y11⟩
            have E4 : BoxE w4 wr (· = w4.heap.size) bn (on + xn * 4) _ _ _ _ := fun W hW => ⟨bl_cell hW.b y12, bl_cell hW.b y13, bl_cell hW.b y14, bl_cell hW.b y15⟩
            clear y0 y1 y2 y3 y4 y5 y6 y7 y8 y9 y10 y11 y12 y13 y14 y15
            have B1 : ∀ W, Fr w4 wr (· = w4.heap.size) W → W.cell? ⟨w.heap.size + 1, 0, none⟩ = _ := fun W hW => bl_cell hW.b (b1 _ f4).1
            have B2 : ∀ W, Fr w4 wr (· = w4.heap.size) W → W.cell? ⟨w.heap.size + 2, 0, none⟩ = _ := fun W hW => bl_cell hW.b (b2 _ f4).1
            clear b1 b2 hR1 hR2 hP4 hP4'
            go_wp2
            clear u0 u1 u2 w0' w1' w2' hc
            have f5 : Fr w4 wr (· = w4.heap.size) wr := Fr.start hb
            go_region_held3 (fun W => Fr w4 wr (· = w4.heap.size) W) (first | assumption | exact Fr.drew (by assumption) | exact Fr.call (by assumption) (by assumption) | exact Fr.putE f6 (by rfl) (Nat.le_refl _) _ _ _ _ _) (first
              | (go_at_call 36; (with_reducible refine (settle_Owed_calls _ _ _ _ qa qp qr qn _ (hqa.below (Fr.b (by assumption))) (hqp.below (Fr.b (by assumption))) (hqr.below (Fr.b (by assumption))) (hqn.below (Fr.b (by assumption))) HLO.out).mono ?_); rintro e w6 ⟨q6, x6, HQ6, hS6, rfl, hN6, hb6⟩; have f6 := Fr.call (by assumption) hb6; obtain ⟨v5, v6, rfl, ⟨r5, C5, m5, rfl, h5⟩, ⟨r6, C6, m6, rfl, h6⟩⟩ := hN6; have hb6' := bl_trans ((Below.refl wr.heap.size wr).drew) hb6; have hO6 := hO.below hb6'; obtain ⟨⟨z0, k0⟩, ⟨z1, k1⟩, ⟨z2, k2⟩, ⟨z3, k3⟩, g0, g1, g2, g3⟩ := hO6.put_facts hol.symm hlt))
            go_wp2
            have hap : Apart w6 (.slice (some ⟨w4.heap.size, 0, none⟩) xs.length xs.length) (.slice C5 q6.n.ws.length m5) (.slice C6 q6.d.ws.length m6) q6 :=
              Apart.new (n0 := wr.heap.size) (l := out) (base := w4.heap.size) ⟨r5, C5, m5, rfl, h5⟩ ⟨r6, C6, m6, rfl, h6⟩ (fun k e => (hO.lt k e).2)
            go_roundw
            case rel =>
              refine ⟨k + 1, out.set k q6, by omega, by simp, by simp [hol], OwnQ.set hO6 hol.symm hlt hap, (Fr.putE f6 rfl (Nat.le_refl _) _ _ _ _ _).b, Lib.hid fun j hj => ?_, Lib.hid fun j hj => ?_, Lib.hid fun q hq => ?_⟩
              · by_cases h : j < k
                · exact HOK.out j h
                · obtain rfl : j = k := by omega
                  rw [← HX.out]; omega
              · by_cases h : j < k
                · rw [List.getElem?_set_ne (by omega)]; exact HOUT.out j h
                · obtain rfl : j = k := by omega
                  rw [List.getElem?_set_self (by omega), HQ6.out, EA.out, EP.out, ER.out, EN.out, HL1.out, HL2.out, pad_val hlt, pad_val hlt]
                  unfold amt
                  rw [← HX.out, Int.toNat_natCast]
              · rcases List.mem_or_eq_of_mem_set hq with h | rfl
                · exact HSO.out q h
                · have := HSX.out; omega
            case measure => simp [intOf]; omega
    · obtain rfl : k = xs.length := by omega
      go_wp2
      have hok : OkAt xs P.length P'.length := fun x hx => by
        obtain ⟨j, hj, rfl⟩ := List.getElem_of_mem hx
        have := HOK.out j hj
        rw [List.getD_eq_getElem?_getD, List.getElem?_eq_getElem hj] at this
        exact this
      refine bodyPost_ret (v := .tuple #[.slice (some ⟨w4.heap.size, 0, none⟩) xs.length xs.length, .int .i64 0]) (by simp [results, Try.results92, go_sem]) rfl ⟨_, _, rfl, (f4.call hb).b, .inl ⟨hok, rfl, out, Lib.hid ?_, HSO.out, hO.mono f4.b.size⟩⟩
      apply List.ext_getElem?
      intro j
      by_cases hj : j < xs.length
      · rw [HOUT.out j hj]; simp [amts, hj]
      · rw [List.getElem?_eq_none (by omega), List.getElem?_eq_none (by simp [amts]; omega)]
end Go.Proofs.Ytnmmgegnioihmaa
