/- Package vec: both, as an iterator. -/
import Derived.Test.YtnmmgegnioihmaaWholeB
import Derived.Test.YtnmmgegnioihmaaVecQ
import Derived.RangeFuncNested
import Derived.Deep.RegionHeld3
import Derived.Deep.AppendLies
import Derived.Deep.RegionHeldLaw
set_option linter.unusedVariables false
set_option linter.unusedSimpArgs false
namespace Go.Proofs.Ytnmmgegnioihmaa
open Go.RowKit Go.Shelf

attribute [local go_sem] Oper.semAt_some

/-- an index and the two elements there -/
structure Pr where
  k : Nat
  a : Qr
  b : Qr
  A1 : Option Addr
  a1 : Nat
  A2 : Option Addr
  a2 : Nat
  B1 : Option Addr
  b1 : Nat
  B2 : Option Addr
  b2 : Nat
def Pr.va (x : Pr) : Value := .agg #[.bool x.a.n.neg, .slice x.A1 x.a.n.ws.length x.a1, .bool x.a.d.neg, .slice x.A2 x.a.d.ws.length x.a2]
def Pr.vb (x : Pr) : Value := .agg #[.bool x.b.n.neg, .slice x.B1 x.b.n.ws.length x.b1, .bool x.b.d.neg, .slice x.B2 x.b.d.ws.length x.b2]
def Pr.enc (x : Pr) : Array Value := #[.int .i64 (x.k : Int), .agg #[.bool x.a.n.neg, .slice x.A1 x.a.n.ws.length x.a1, .bool x.a.d.neg, .slice x.A2 x.a.d.ws.length x.a2, .bool x.b.n.neg, .slice x.B1 x.b.n.ws.length x.b1, .bool x.b.d.neg, .slice x.B2 x.b.d.ws.length x.b2]]
/-- the first k pairs of two vectors, as they lie in W -/
def PairsTo (W : World) (l r : List Qr) (k : Nat) (xs : List Pr) : Prop := xs.length = k ∧ ∀ (i : Nat) (x : Pr), xs[i]? = some x → x.k = i ∧ x.a = l.getD i zeroQ ∧ x.b = r.getD i zeroQ ∧ IsQ W x.va x.a ∧ IsQ W x.vb x.b
theorem PairsTo.nil (W : World) (l r : List Qr) : PairsTo W l r 0 [] := ⟨rfl, fun i x h => by cases h⟩
theorem PairsTo.snoc {W : World} {l r : List Qr} {k : Nat} {xs : List Pr} (h : PairsTo W l r k xs) {x : Pr} (h1 : x.k = k) (h2 : x.a = l.getD k zeroQ) (h3 : x.b = r.getD k zeroQ) (h4 : IsQ W x.va x.a) (h5 : IsQ W x.vb x.b) : PairsTo W l r (k + 1) (xs ++ [x]) := by
  refine ⟨by simp [h.1], fun i y hi => ?_⟩
  by_cases hlt : i < xs.length
  · rw [List.getElem?_append_left hlt] at hi; exact h.2 i y hi
  · have := (List.getElem?_eq_some_iff.1 hi).1
    simp at this
    have e : i = k := by have := h.1; omega
    subst e
    rw [List.getElem?_append_right (by omega)] at hi
    have e2 : i - xs.length = 0 := by have := h.1; omega
    rw [e2] at hi
    simp at hi; subst hi
    exact ⟨h1, h2, h3, h4, h5⟩
/-- a pair with its facts: the two numbers lie in w, their sizes are bounded -/
abbrev PrAt (w : World) (M : Nat) := { x : Pr // (IsQ w x.va x.a ∧ IsQ w x.vb x.b) ∧ x.a.S ≤ M ∧ x.b.S ≤ M }
theorem IsW.sameH {w W : World} {v : Value} {xs : List Nat} (h : IsW w v xs) (hk : ∀ k, k < w.heap.size → W.heap[k]? = w.heap[k]?) : IsW W v xs := by
  obtain ⟨hr, A, c, e, h⟩ := h
  exact ⟨hr, A, c, e, h.same hk⟩
theorem IsQ.sameH {w W : World} {v : Value} {q : Qr} (h : IsQ w v q) (hk : ∀ k, k < w.heap.size → W.heap[k]? = w.heap[k]?) : IsQ W v q := by
  obtain ⟨v1, v2, e, h1, h2⟩ := h
  exact ⟨v1, v2, e, h1.sameH hk, h2.sameH hk⟩
theorem cell_sameH {w W : World} {p : Addr} {v : Value} (h : w.cell? p = some v) (hk : ∀ k, k < w.heap.size → W.heap[k]? = w.heap[k]?) : W.cell? p = some v := by
  rw [← h]; exact World.cell?_of_block (w := w) (hk _ (World.block_lt_of_cell? w _ h))
/-- an element's cells, beyond the end those of zero -/
structure ElemAt (w : World) (A : Option Addr) (n k : Nat) (q : Qr) (A1 : Option Addr) (a1 : Nat) (A2 : Option Addr) (a2 : Nat) : Prop where
  inn : k < n → ∃ b off, A = some ⟨b, off, none⟩ ∧ w.cell? ⟨b, off + k * 4, none⟩ = some (.bool q.n.neg) ∧ w.cell? ⟨b, off + k * 4 + 1, none⟩ = some (.slice A1 q.n.ws.length a1) ∧ w.cell? ⟨b, off + k * 4 + 2, none⟩ = some (.bool q.d.neg) ∧ w.cell? ⟨b, off + k * 4 + 3, none⟩ = some (.slice A2 q.d.ws.length a2)
  out : ¬ k < n → q = zeroQ ∧ A1 = none ∧ a1 = 0 ∧ A2 = none ∧ a2 = 0
  is : IsQ w (.agg #[.bool q.n.neg, .slice A1 q.n.ws.length a1, .bool q.d.neg, .slice A2 q.d.ws.length a2]) q
theorem QRow.elem {w : World} {A : Option Addr} {c : Nat} {l : List Qr} (h : QRow w A c l) (k : Nat) : ∃ A1 a1 A2 a2, ElemAt w A l.length k (l.getD k zeroQ) A1 a1 A2 a2 := by
  by_cases hk : k < l.length
  · obtain ⟨b, off, A1, a1, A2, a2, e, y0, y1, y2, y3, hq⟩ := h.at hk
    exact ⟨A1, a1, A2, a2, ⟨fun _ => ⟨b, off, e, y0, y1, y2, y3⟩, fun h => absurd hk h, hq⟩⟩
  · have he : l.getD k zeroQ = zeroQ := by rw [List.getD_eq_getElem?_getD, List.getElem?_eq_none (by omega)]; rfl
    rw [he]
    exact ⟨none, 0, none, 0, ⟨fun h => absurd h hk, fun _ => ⟨rfl, rfl, rfl, rfl, rfl⟩, isZero w⟩⟩
theorem ElemAt.sameH {w W : World} {A : Option Addr} {n k : Nat} {q : Qr} {A1 : Option Addr} {a1 : Nat} {A2 : Option Addr} {a2 : Nat} (h : ElemAt w A n k q A1 a1 A2 a2) (hk : ∀ k, k < w.heap.size → W.heap[k]? = w.heap[k]?) : ElemAt W A n k q A1 a1 A2 a2 :=
  ⟨fun hlt => by
    obtain ⟨b, off, e, y0, y1, y2, y3⟩ := h.inn hlt
    exact ⟨b, off, e, cell_sameH y0 hk, cell_sameH y1 hk, cell_sameH y2 hk, cell_sameH y3 hk⟩, h.out, h.is.sameH hk⟩
set_option maxHeartbeats 2000000 in
/-- at, the element's cells told -/
theorem vec_at_told (A : Option Addr) (n c k : Nat) (q : Qr) (A1 : Option Addr) (a1 : Nat) (A2 : Option Addr) (a2 : Nat) (w : World) (h : ElemAt w A n k q A1 a1 A2 a2) :
    Calls Try.prog 103 #[.slice A n c, .int .i64 (k : Int)] w fun e w' => e = .returned (.agg #[.bool q.n.neg, .slice A1 q.n.ws.length a1, .bool q.d.neg, .slice A2 q.d.ws.length a2]) ∧ Below w.heap.size w w' := by
  by_cases hlt : k < n
  · obtain ⟨b, off, rfl, y0, y1, y2, y3⟩ := h.inn hlt
    clear h
    have Y0 := fun o => bl_cell (bl_alloc w o) y0
    have Y1 := fun o => bl_cell (bl_alloc w o) y1
    have Y2 := fun o => bl_cell (bl_alloc w o) y2
    have Y3 := fun o => bl_cell (bl_alloc w o) y3
    have hb : b < w.heap.size := World.block_lt_of_cell? w _ y0
    have hne : ¬ b = w.heap.size := by omega
    go_enter Try.func103, Try.ntmps103
    go_wp2
    exact bodyPost_ret (v := .agg #[.bool q.n.neg, .slice A1 q.n.ws.length a1, .bool q.d.neg, .slice A2 q.d.ws.length a2]) (by simp [results, Try.results103, go_sem]) rfl ⟨rfl, bl_alloc _ _⟩
  · obtain ⟨rfl, rfl, rfl, rfl, rfl⟩ := h.out hlt
    clear h
    go_enter Try.func103, Try.ntmps103
    go_wp2
    exact bodyPost_ret (v := .agg #[.bool false, .slice none 0 0, .bool false, .slice none 0 0]) (by simp [results, Try.results103, go_sem]) rfl ⟨rfl, bl_alloc _ _⟩
theorem or_bool {e : Ending} {P Q : Prop} (h : (e = .returned (.bool true) ∧ P) ∨ (e = .returned (.bool false) ∧ Q)) : ∃ bb, e = .returned (.bool bb) ∧ (bb = true → P) ∧ (bb = false → Q) := by
  rcases h with ⟨h1, h2⟩ | ⟨h1, h2⟩
  · exact ⟨true, h1, fun _ => h2, fun h => by cases h⟩
  · exact ⟨false, h1, (fun h => by cases h), fun _ => h2⟩
set_option maxRecDepth 100000 in
set_option maxHeartbeats 4000000 in
/-- both's closure, for every loop body that keeps the blocks S -/
theorem both1_in (l Ba Bb ca cb : Nat) (A B : Option Addr) (us vs : List Qr) (S : Nat → Prop) (w0 : World) (hP : QRow w0 A ca us) (hQ : QRow w0 B cb vs) (M : Nat) (h1 : 1 ≤ M) (sP : ∀ q ∈ us, q.S ≤ M) (sQ : ∀ q ∈ vs, q.S ≤ M) (J Jx : List (PrAt w0 M) → World → Prop) (W : World)
    (hlen : us.length ≤ 1099511627776 ∧ vs.length ≤ 1099511627776)
    (hS : ∀ k, S k → k < W.heap.size)
    (hread : ∀ W', Kept S W W' → W'.cell? ⟨Ba, 0, none⟩ = some (.slice A us.length ca) ∧ W'.cell? ⟨Bb, 0, none⟩ = some (.slice B vs.length cb) ∧ ∀ k, k < w0.heap.size → W'.heap[k]? = w0.heap[k]?)
    (hY : ∀ pre x W1, J pre W1 → pre.length < max us.length vs.length → YieldAt Fence.wide 1 Try.prog l x.1.enc W1 fun e W' =>
      (e = .returned (.bool true) ∧ J (pre ++ [x]) W' ∧ Kept S W1 W') ∨ (e = .returned (.bool false) ∧ Jx (pre ++ [x]) W'))
    (hJ : ∀ pre W1 W2, J pre W1 → Below W1.heap.size W1 W2 → J pre W2) (h0 : J [] W) :
    CallsIn Fence.wide 2 Try.prog 137 #[.func (.yield l) #[] #[], .pointer (some ⟨Ba, 0, none⟩), .pointer (some ⟨Bb, 0, none⟩)] W fun e W' => (∃ v, e = .returned v) ∧
      ((∃ ys, PairsTo w0 us vs (max us.length vs.length) (ys.map (fun x => x.1)) ∧ J ys W') ∨ (∃ pre, (∃ k, k ≤ max us.length vs.length ∧ PairsTo w0 us vs k (pre.map (fun x => x.1))) ∧ Jx pre W')) := by
  obtain ⟨c1, c2, -⟩ := hread W (Kept.refl _ _)
  obtain ⟨m, hm⟩ : ∃ m, m = max us.length vs.length := ⟨_, rfl⟩
  have h9 : ∀ ts t W, (Builtin.max_ ts t #[.int .i64 (us.length : Int), .int .i64 (vs.length : Int)]).run Try.prog W = .ok (.int .i64 (m : Int)) W := fun ts t W => by
    rw [run_max_int2, hm]; congr 2; split <;> omega
  have hmb : m ≤ 1099511627776 := by omega
  rw [← hm] at hY ⊢
  clear hm
  have hro : Try.prog.follows .mixedOrders = true := by kernel_rfl
  refine callsIn_of_wp Try.func137 rfl trivial ?_ rfl
  simp only [Try.ntmps137, List.size_toArray, List.length_cons, List.length_nil, Nat.reduceAdd, Nat.reduceSub, Array.replicate_succ, Array.replicate_zero, List.push_toArray, List.append_toArray, List.nil_append, List.cons_append]
  gi_wp2
  clear h9
  gi_loopw [10] (fun i wr => ∃ (k : Nat) (xs : List (PrAt w0 M)), k ≤ m ∧ i = .int .i64 k ∧ PairsTo w0 us vs k (xs.map (fun x => x.1)) ∧ J xs wr ∧ Kept S W wr) (fun i _ => m - (intOf i).toNat)
  case atStart => exact ⟨0, [], Nat.zero_le _, rfl, (PairsTo.nil w0 us vs), h0, Kept.refl _ _⟩
  case round =>
    obtain ⟨k, xs, hk, rfl, hxs, hJs, hnx⟩ := hrel
    obtain ⟨d1, d2, hsame⟩ := hread wr hnx
    clear c1 c2
    by_cases hlt : k < m
    · obtain ⟨A1, a1, A2, a2, he⟩ := hP.elem k
      obtain ⟨B1, b1, B2, b2, hf⟩ := hQ.elem k
      have sa := getD_S sP h1 k
      have sb := getD_S sQ h1 k
      obtain ⟨qa, hqa⟩ : ∃ q, q = us.getD k zeroQ := ⟨_, rfl⟩
      obtain ⟨qb, hqb⟩ : ∃ q, q = vs.getD k zeroQ := ⟨_, rfl⟩
      rw [← hqa] at he sa
      rw [← hqb] at hf sb
      have HA := Lib.hid hqa
      have HB := Lib.hid hqb
      clear hqa hqb
      have hx1 : (IsQ w0 (Pr.va ⟨k, qa, qb, A1, a1, A2, a2, B1, b1, B2, b2⟩) qa ∧ IsQ w0 (Pr.vb ⟨k, qa, qb, A1, a1, A2, a2, B1, b1, B2, b2⟩) qb) ∧ qa.S ≤ M ∧ qb.S ≤ M := ⟨⟨he.is, hf.is⟩, sa, sb⟩
      have HX1 := Lib.hid hx1
      clear hx1 sa sb
      have hsn : PairsTo w0 us vs (k + 1) ((xs ++ [(⟨⟨k, qa, qb, A1, a1, A2, a2, B1, b1, B2, b2⟩, HX1.out⟩ : PrAt w0 M)]).map (fun x => x.1)) := by
        rw [List.map_append]
        exact hxs.snoc (x := ⟨k, qa, qb, A1, a1, A2, a2, B1, b1, B2, b2⟩) rfl HA.out HB.out he.is hf.is
      have HSN := Lib.hid hsn
      clear hsn
      have he1 := he.sameH (W := wr.drew) hsame
      have hkb : ∀ k, S k → k < wr.heap.size := fun k hk => by
        have h1 := hnx k hk
        rw [Array.getElem?_eq_getElem (hS k hk)] at h1
        exact (Array.getElem?_eq_some_iff.1 h1).1
      gi_wp2
      have hlt1 : ∀ j, j < w0.heap.size → j < wr.heap.size := fun j hj => by
        have h1 := hsame j hj
        rw [Array.getElem?_eq_getElem hj] at h1
        exact (Array.getElem?_eq_some_iff.1 h1).1
      gi_region_with_o (first
        | (refine ⟨trivial, ?_⟩; gi_at_call 103; (with_reducible refine (callsIn_wide.2 (vec_at_told A us.length ca k _ A1 a1 A2 a2 wr.drew he1)).mono ?_); rintro e w1 ⟨rfl, hb1⟩; have b1w := bl_trans (Below.refl wr.heap.size wr).drew hb1; have d2' := bl_cell b1w d2; have hf1 : ElemAt w1 B vs.length k qb B1 b1 B2 b2 := hf.sameH (fun j hj => (b1w.block j (hlt1 j hj)).trans (hsame j hj)))
        | (refine ⟨trivial, ?_⟩; gi_at_call 103; (with_reducible refine (callsIn_wide.2 (vec_at_told B vs.length cb k _ B1 b1 B2 b2 w1 hf1)).mono ?_); rintro e w2 ⟨rfl, hb2⟩; have b2w := bl_trans b1w hb2; have hk2 : Kept S wr w2 := Kept.below b2w hkb; obtain ⟨fn, tmps, assign, body, hy, hR⟩ := hY xs ⟨⟨k, qa, qb, A1, a1, A2, a2, B1, b1, B2, b2⟩, HX1.out⟩ w2 (hJ _ _ _ hJs b2w) (by have := hxs.1; rw [List.length_map] at this; rw [this]; exact hlt); simp only [Pr.enc] at hy)
        | (have _h := hb2; refine hR.mono ?_; rintro e W3 hor; obtain ⟨bb, rfl, hpt, hpf⟩ := or_bool hor))
      all_goals cases bb
      all_goals (first | have hp := hpt rfl | have hp := hpf rfl)
      all_goals clear hpt hpf
      all_goals gi_wp2
      all_goals (try (exact bodyPost_ret (results_none rfl _ _ _) rfl ⟨⟨_, rfl⟩, .inr ⟨xs ++ [(⟨⟨k, qa, qb, A1, a1, A2, a2, B1, b1, B2, b2⟩, HX1.out⟩ : PrAt w0 M)], ⟨k + 1, by omega, HSN.out⟩, hp⟩⟩))
      all_goals go_roundw
      all_goals first
        | exact ⟨k + 1, xs ++ [(⟨⟨k, qa, qb, A1, a1, A2, a2, B1, b1, B2, b2⟩, HX1.out⟩ : PrAt w0 M)], by omega, by simp, HSN.out, hp.1, hnx.trans (hk2.trans hp.2)⟩
        | (simp [intOf]; omega)
    · obtain rfl : k = m := by omega
      gi_wp2
      go_end0
      exact ⟨⟨_, rfl⟩, .inl ⟨xs, hxs, hJs⟩⟩
/-- vec.both(a, b), the two slices in boxes Ba and Bb, as an iterator -/
theorem both_stops (Ba Bb ca cb : Nat) (A B : Option Addr) (us vs : List Qr) (S : Nat → Prop) (w0 : World) (hP : QRow w0 A ca us) (hQ : QRow w0 B cb vs) (M : Nat) (h1 : 1 ≤ M) (sP : ∀ q ∈ us, q.S ≤ M) (sQ : ∀ q ∈ vs, q.S ≤ M) (W0 : World)
    (hlen : us.length ≤ 1099511627776 ∧ vs.length ≤ 1099511627776) (hS : ∀ k, S k → k < W0.heap.size)
    (hread : ∀ W', Kept S W0 W' → W'.cell? ⟨Ba, 0, none⟩ = some (.slice A us.length ca) ∧ W'.cell? ⟨Bb, 0, none⟩ = some (.slice B vs.length cb) ∧ ∀ k, k < w0.heap.size → W'.heap[k]? = w0.heap[k]?) :
    SeqStopsK Fence.wide 2 Try.prog 137 #[.pointer (some ⟨Ba, 0, none⟩), .pointer (some ⟨Bb, 0, none⟩)] (fun x : PrAt w0 M => x.1.enc) (Kept S)
      (fun xs => PairsTo w0 us vs (max us.length vs.length) (xs.map (fun x => x.1))) (fun pre => ∃ k, k ≤ max us.length vs.length ∧ PairsTo w0 us vs k (pre.map (fun x => x.1))) (max us.length vs.length) W0 := fun l J Jx W hW hJ _ hY h0 =>
  both1_in l Ba Bb ca cb A B us vs S w0 hP hQ M h1 sP sQ J Jx W hlen (fun k hk => Nat.lt_of_lt_of_le (hS k hk) hW.size) (fun W' h => hread W' ((Kept.below hW hS).trans h)) hY
    (fun pre W1 W2 h hb => hJ pre W1 W2 none h ⟨hb.os, hb.tape, hb.output, hb.size, fun k hk _ => hb.block k hk⟩ (fun r e => by cases e)) h0
set_option maxHeartbeats 1000000 in
theorem both_calls (A B : Option Addr) (n c m d : Nat) (w : World) :
    Calls Try.prog 106 #[.slice A n c, .slice B m d] w fun e w' => e = .returned (.func (.func 137) #[] #[.pointer (some ⟨w.heap.size, 0, none⟩), .pointer (some ⟨w.heap.size + 1, 0, none⟩)]) ∧
      w' = (w.alloc (.cells #[.slice A n c] 23)).alloc (.cells #[.slice B m d] 23) := by
  go_enter Try.func106, Try.ntmps106
  go_wp2
  go_ret
  exact ⟨rfl, rfl⟩
end Go.Proofs.Ytnmmgegnioihmaa
namespace Go.Proofs.Ytnmmgegnioihmaa
open Go.RowKit Go.Shelf

theorem oper_in {l n : Nat} {P : Program} {o : Oper} {a : Act} {w : World} {K K' : Act → World → Prop} {Q : Exit → Act → World → Prop} (hnd : ∀ c, o.op ≠ .defer c) (hK : ∀ a w, K a w → K' a w) (h : o.wp P a w K Q) : o.wpIn (Fence.wide.inRound l) n P a w K' Q := by
  refine ⟨fun f _ => trivial, ?_⟩
  have e : (o.semAt (Fence.wide.inRound l).round a.eval) = execOp a.eval o := Oper.semAt_some l _ _ hnd
  rw [e]
  unfold Oper.wp at h
  generalize (execOp a.eval o).run P w = r at *
  cases r with
  | ok x w' =>
    cases x
    case value v => exact hK _ _ h
    case skip => exact hK _ _ h
    case defer d => exact hK _ _ h
    case enter f args =>
      refine ⟨(fun h' => by cases h'), CallsIn.inRound l (callsIn_wide.2 (Calls.mono h ?_))⟩
      intro e w'' he
      cases e
      · exact hK _ _ he
      · exact he
      · exact he
    case row r args => exact ⟨(fun h' => by cases h'), fun c cs _ => let ⟨v, w', r, s⟩ := h c cs; ⟨v, w', hK _ _ r, by rw [fenced_inRound]; exact stepsIn_wide.2 s⟩⟩
    all_goals exact h.elim
  | halt x w' => cases x <;> first | exact h | exact h.elim
theorem wpOp_in {l n : Nat} {P : Program} {ops : Array Oper} {Q : Exit → Act → World → Prop} {i : Nat} {K K' : Act → World → Prop} {a : Act} {w : World} (hnd : ∀ (i : Nat) o, ops[i]? = some o → ∀ c, o.op ≠ .defer c) (hL : ¬ LetsOut Q) (hK : ∀ a w, K a w → K' a w) (h : wpOp P ops Q i K a w) :
    wpOpIn (Fence.wide.inRound l) n P ops Q i K' a w := by
  unfold wpOp at h
  unfold wpOpIn
  cases ho : ops[i]? with
  | none => rw [ho] at h; exact hK _ _ h
  | some o =>
    rw [ho] at h
    dsimp only at h ⊢
    split
    · rename_i hw
      rw [if_pos hw] at h
      rcases h with h | ⟨_, h⟩
      · exact oper_in (hnd i o ho) hK h
      · exact absurd h hL
    · rename_i hw
      rw [if_neg hw] at h
      exact ⟨fun f _ => trivial, hK _ _ h⟩
theorem wpAny_in {l n : Nat} {P : Program} {md : Region.Mode} {ops : Array Oper} {Q : Exit → Act → World → Prop} (hnd : ∀ (i : Nat) o, ops[i]? = some o → ∀ c, o.op ≠ .defer c) (hL : ¬ LetsOut Q) :
    ∀ (fuel : Nat) (listed : Array Bool) (a : Act) (w : World), wpAny P md ops Q fuel listed a w → wpAnyIn (Fence.wide.inRound l) n P md ops Q fuel listed a w
  | 0, _, _, _, h => h
  | fuel + 1, _, _, _, h => ⟨h.1, fun i hi => wpOp_in hnd hL (fun a w h => wpAny_in hnd hL fuel _ a w h) (h.2 i hi)⟩
/-- the region, under a condition S on the world -/
theorem wpIn_region_held {l n id : Nat} {P : Program} {ops : Array Oper} {Q : Exit → Act → World → Prop} {a : Act} {w : World} (S : World → Prop) (hm : P.follows .mixedOrders = true) (hnd : ∀ o ∈ ops, ∀ c, o.op ≠ .defer c) (hL : ¬ LetsOut Q) (hS : S w.drew)
    (h : S w.drew → wpAnyH P .any ops Q S ops.size (Array.replicate ops.size false) a w.drew) : (Code.region id ops true).wpIn (Fence.wide.inRound l) n P Q a w :=
  wpIn_region_any hm (wpAny_in (fun i o ho => hnd o (Array.mem_of_getElem? ho)) hL _ _ _ _ (wpAny_of_held _ _ _ _ (h hS)))
/-- append at a step of such a region, by an equation on its run -/
theorem step_append_run {P : Program} {ops : Array Oper} {o : Oper} {a : Act} {w w' : World} {K : Act → World → Prop} {Q : Exit → Act → World → Prop} {E : Prop} {s x : Operand} {t : TypeId} {v1 v2 v : Value} (hgd : o.guard = none)
    (ho : o.op = .call { callee := .builtin .append, args := #[s, x], argTypes := #[t, t] }) (hs : a.eval s = v1) (hx : a.eval x = v2) (hr : (Builtin.append_ #[t, t] o.type #[v1, v2]).run P w = .ok v w') (h : K (a.put o.dst v) w') :
    if Region.wanted o (yielded ops a.tmps) = true then Oper.wp P o a w K Q else E := by
  have hw : Region.wanted o (yielded ops a.tmps) = true := by simp [Region.wanted, hgd]
  rw [if_pos hw]
  unfold Oper.wp execOp
  simp only [ho, resolve, invoke, builtin, Sem.run_bind, Sem.run_pure, Result.andThen_ok, List.map_toArray, List.map_cons, List.map_nil, hs, hx, hr]
  exact h
end Go.Proofs.Ytnmmgegnioihmaa
namespace Go.Proofs.Ytnmmgegnioihmaa
open Go.RowKit Go.Shelf

attribute [local go_sem] Oper.semAt_some

/-- append(v, q) onto a row of the call's own, as an equation on the run: for a step of a region that draws -/
theorem run_append_q1 {w : World} (ty : TypeId) (q : Qr) (n1 c1 : Nat) (A1 : Option Addr) (n2 c2 : Nat) (A2 : Option Addr) (T : TypeId) (base n0 : Nat) (v : Value) (l : List Qr) (hown : OwnQ base w v l)
    (hN : NQ n0 w (.agg #[.bool q.n.neg, .slice A1 n1 c1, .bool q.d.neg, .slice A2 n2 c2]) q) (hv : ∀ k, v.ownBlock = some k → k < n0) (hlen : (l.length + 1) * 64 ≤ 140737488355328) (hbase : base ≤ w.heap.size) (hn : base ≤ n0) :
    ∃ A cap w', (Builtin.append_ #[23, 23] ty #[v, .slice (some ⟨w.heap.size, 0, none⟩) 1 1]).run Try.prog (w.alloc (.cells #[.bool q.n.neg, .slice A1 n1 c1, .bool q.d.neg, .slice A2 n2 c2] T)) = .ok (.slice A (l.length + 1) cap) w' ∧
      OwnQ base w' (.slice A (l.length + 1) cap) (l ++ [q]) ∧ (w.alloc (.cells #[.bool q.n.neg, .slice A1 n1 c1, .bool q.d.neg, .slice A2 n2 c2] T)).grownBy w' v.ownBlock := by
  obtain ⟨u1, u2, e, h1, h2⟩ := hN
  cases e
  have hb := bl_alloc w (.cells #[.bool q.n.neg, .slice A1 n1 c1, .bool q.d.neg, .slice A2 n2 c2] T)
  have hown' := hown.below hb
  have hap := Apart.below (Apart.new (v := v) (l := l) (base := base) h1 h2 hv hn) hb
  obtain ⟨xs, hxo, hxx⟩ := hown'
  obtain ⟨i, hi, hz, hsz, hby⟩ := info_Q_parts
  obtain ⟨g, cap, w', hr, k1, k2, k3, k4⟩ := run_append_lies (P := Try.prog) (w.alloc (.cells #[.bool q.n.neg, .slice A1 n1 c1, .bool q.d.neg, .slice A2 n2 c2] T)) 23 ty base 43 i _ 4 64 und_Qs hi hz hsz hby rfl (by decide) v l.length xs hxo ⟨w.heap.size, 0, none⟩ 1 1
    [.bool q.n.neg, .slice A1 n1 c1, .bool q.d.neg, .slice A2 n2 c2] rfl (World.news_of_block (heap_alloc_new w _)) (fun u hu => by simp at hu; rcases hu with rfl | rfl | rfl | rfl <;> rfl) (by decide) (by unfold maxLen; omega) hlen (Nat.le_trans hbase hb.size) _ rfl
  exact ⟨_, cap, w', hr, OwnQ.app hxo.1 hxx hap k1 k2 k3, k2⟩
/-- the row that grows by one number behind a call, its slice in box B -/
theorem with_step {W w1 : World} {q : Qr} {n1 c1 n2 c2 : Nat} {A1 A2 : Option Addr} {base n B oc : Nat} {O : Option Addr} {r : List Qr} (ty T : TypeId) (hb1 : Below W.heap.size W w1) (hN : NQ W.heap.size w1 (.agg #[.bool q.n.neg, .slice A1 n1 c1, .bool q.d.neg, .slice A2 n2 c2]) q)
    (g2 : OwnQ base W (.slice O n oc) r) (hn : r.length = n) (c6 : W.cell? ⟨B, 0, none⟩ = some (.slice O n oc)) (f6 : W.frozen? ⟨B, 0, none⟩ = false) (hB : B < base) (hbase : base ≤ W.heap.size) (hlen : n + 1 ≤ 1099511627776) :
    ∃ A cap w3, (Builtin.append_ #[23, 23] ty #[.slice O n oc, .slice (some ⟨w1.heap.size, 0, none⟩) 1 1]).run Try.prog (w1.alloc (.cells #[.bool q.n.neg, .slice A1 n1 c1, .bool q.d.neg, .slice A2 n2 c2] T)) = .ok (.slice A (n + 1) cap) w3 ∧
      OwnQ base w3 (.slice A (n + 1) cap) (r ++ [q]) ∧ w3.cell? ⟨B, 0, none⟩ = some (.slice O n oc) ∧ w3.frozen? ⟨B, 0, none⟩ = false ∧ W.heap.size ≤ w3.heap.size ∧ (∀ k, k < W.heap.size → (Value.slice O n oc).ownBlock ≠ some k → w3.heap[k]? = W.heap[k]?) ∧ (∀ w0 : World, w0.heap.size ≤ base → Below w0.heap.size w0 W → Below w0.heap.size w0 w3) := by
  have hG := g2.below hb1
  obtain ⟨A, cap, w3, hr, hO3, hg3⟩ := run_append_q1 (w := w1) ty q n1 c1 A1 n2 c2 A2 T base W.heap.size _ r hG hN (fun k e => (g2.lt k e).2) (by omega) (Nat.le_trans hbase hb1.size) hbase
  rw [hn] at hr hO3
  have hne : some B ≠ (Value.slice O n oc).ownBlock := fun e => by have := (g2.lt _ e.symm).1; omega
  have c6w := bl_cell hb1 c6
  have f6w := (bl_frozen hb1 c6).trans f6
  have ca1 := bl_cell (bl_alloc w1 (.cells #[.bool q.n.neg, .slice A1 n1 c1, .bool q.d.neg, .slice A2 n2 c2] T)) c6w
  have hs : w1.heap.size ≤ w3.heap.size := Nat.le_trans (bl_alloc w1 _).size hg3.size
  refine ⟨A, cap, w3, hr, hO3, ?_, ?_, Nat.le_trans hb1.size hs, fun k hk hne' => ?_, fun w0 h0 hb0 => ?_⟩
  · rw [← ca1]; exact World.cell?_of_block (w := w1.alloc _) (hg3.block B (World.block_lt_of_cell? _ _ ca1) hne)
  · have e := hg3.block B (World.block_lt_of_cell? _ _ ca1) hne
    have h2 := (bl_frozen (bl_alloc w1 (.cells #[.bool q.n.neg, .slice A1 n1 c1, .bool q.d.neg, .slice A2 n2 c2] T)) c6w).trans f6w
    rw [← h2]; unfold World.frozen?; dsimp only; rw [e]
  · refine (hg3.block k ?_ (fun e => hne' e.symm)).trans ((Below.heap_alloc _ _ _ (Nat.lt_of_lt_of_le hk hb1.size)).trans (hb1.block k hk))
    have := (bl_alloc w1 (.cells #[.bool q.n.neg, .slice A1 n1 c1, .bool q.d.neg, .slice A2 n2 c2] T)).size
    have := hb1.size
    omega
  · refine ((hb0.trans (hb1.mono hb0.size)).trans ((bl_alloc w1 _).mono (Nat.le_trans hb0.size hb1.size))).grown hg3 (Nat.le_trans hb0.size (Nat.le_trans hb1.size (bl_alloc w1 _).size)) (fun k e => Nat.le_trans h0 (g2.lt k e).1)
theorem ag_cell {W w3 : World} {v : Value} (hag : ∀ k, k < W.heap.size → v.ownBlock ≠ some k → w3.heap[k]? = W.heap[k]?) {p : Addr} {u : Value} (h : W.cell? p = some u) (hne : v.ownBlock ≠ some p.block) : w3.cell? p = some u := by
  rw [← h]; exact World.cell?_of_block (w := W) (hag _ (World.block_lt_of_cell? W _ h) hne)
theorem with_end {W W0 w w3 : World} {O O2 : Option Addr} {oc oc2 n B : Nat} {t : TypeId} {r : List Qr} {q : Qr} (hag : ∀ k, k < W.heap.size → (Value.slice O n oc).ownBlock ≠ some k → w3.heap[k]? = W.heap[k]?) (hs3 : W.heap.size ≤ w3.heap.size)
    (hbl3 : ∀ w0 : World, w0.heap.size ≤ W0.heap.size → Below w0.heap.size w0 W → Below w0.heap.size w0 w3) (hO3 : OwnQ W0.heap.size w3 (.slice O2 (n + 1) oc2) (r ++ [q])) (g1 : Boxed W B t (.slice O n oc)) (g2 : OwnQ W0.heap.size W (.slice O n oc) r)
    (hk : Kept (fun k => k < W0.heap.size ∧ k ≠ B) W0 W) (hsz : W0.heap.size ≤ W.heap.size) (hbl : Below w.heap.size w W) (hB : w.heap.size ≤ B) (hB2 : B < W0.heap.size) :
    KeepsFrom W0.heap.size W (w3.setCell ⟨B, 0, none⟩ (.slice O2 (n + 1) oc2)) ∧ Kept (fun k => k < W0.heap.size ∧ k ≠ B) W (w3.setCell ⟨B, 0, none⟩ (.slice O2 (n + 1) oc2)) ∧ Boxed (w3.setCell ⟨B, 0, none⟩ (.slice O2 (n + 1) oc2)) B t (.slice O2 (n + 1) oc2) ∧
      OwnQ W0.heap.size (w3.setCell ⟨B, 0, none⟩ (.slice O2 (n + 1) oc2)) (.slice O2 (n + 1) oc2) (r ++ [q]) ∧ Kept (fun k => k < W0.heap.size ∧ k ≠ B) W0 (w3.setCell ⟨B, 0, none⟩ (.slice O2 (n + 1) oc2)) ∧ W0.heap.size ≤ (w3.setCell ⟨B, 0, none⟩ (.slice O2 (n + 1) oc2)).heap.size ∧ Below w.heap.size w (w3.setCell ⟨B, 0, none⟩ (.slice O2 (n + 1) oc2)) := by
  have hsz4 : (w3.setCell ⟨B, 0, none⟩ (.slice O2 (n + 1) oc2)).heap.size = w3.heap.size := by simp [World.setCell]
  have hK : Kept (fun k => k < W0.heap.size ∧ k ≠ B) W (w3.setCell ⟨B, 0, none⟩ (.slice O2 (n + 1) oc2)) := fun k hk' =>
    (Below.heap_setCell _ _ _ _ hk'.2).trans (hag k (by omega) (fun e => by have := (g2.lt k e).1; omega))
  refine ⟨⟨by omega, fun k o hk0 hko hoc => ?_⟩, hK, ?_, hO3.setFar (p := ⟨B, 0, none⟩) hB2 _, hk.trans hK, by omega, ?_⟩
  · exact ((Below.heap_setCell _ _ _ _ (show k ≠ B by omega)).trans (hag k (Array.getElem?_eq_some_iff.1 hko).1 (g2.ne_other hko hoc))).trans hko
  · have h3 : Boxed w3 B t (.slice O n oc) := (hag B (by omega) (fun e => by have := (g2.lt B e).1; omega)).trans g1
    exact h3.set _
  · exact (hbl3 w (by omega) hbl).setCell (p := ⟨B, 0, none⟩) hB _
/-- the sums of two vectors, to the longer's end -/
def addR (l r : List Qr) (n : Nat) : List Rat := (List.range n).map fun k => (l.getD k zeroQ).val + (r.getD k zeroQ).val
set_option maxRecDepth 100000 in
set_option maxHeartbeats 4000000 in
theorem with_Add_calls (A B : Option Addr) (ca cb : Nat) (us vs : List Qr) (M : Nat) (w : World) (hP : QRow w A ca us) (hQ : QRow w B cb vs) (sP : ∀ q ∈ us, q.S ≤ M) (sQ : ∀ q ∈ vs, q.S ≤ M) (h1 : 1 ≤ M) (hM : M ≤ 1099511627776) (hlen : us.length ≤ 1099511627 ∧ vs.length ≤ 1099511627) :
    Calls Try.prog 97 #[.slice A us.length ca, .slice B vs.length cb, .func (.func 38) #[] #[]] w (PostR w (addR us vs (max us.length vs.length)) (2 * M)) := by
  have HS := Lib.hid (And.intro sP sQ)
  clear sP sQ
  refine (callsIn_wide (n := 3)).1 ?_
  refine callsIn_of_wp_marks Try.func97 rfl trivial ?_ rfl
  simp only [Try.ntmps97, List.size_toArray, List.length_cons, List.length_nil, Nat.reduceAdd, Nat.reduceSub, Array.replicate_succ, Array.replicate_zero, List.push_toArray, List.append_toArray, List.nil_append, List.cons_append]
  gi_wp2_with (refine ⟨trivial, ?_⟩; gi_at_call 106; refine (callsIn_wide.2 (both_calls _ _ _ _ _ _ _)).mono ?_; rintro e w' ⟨rfl, rfl⟩)
  generalize hW0 : World.alloc _ _ = W0
  have hb0 : Below w.heap.size w W0 := by subst hW0; exact bl_alloc2 (bl_alloc2 (bl_alloc2 (bl_alloc _ _) _) _) _
  have hz : W0.heap.size = w.heap.size + 4 := by subst hW0; simp
  have hBo : Boxed W0 (w.heap.size + 1) 23 (.slice none 0 0) := by subst hW0; simpa using (((Boxed.new (w.alloc _) _ _).alloc _).alloc _)
  have hBf : W0.cell? ⟨w.heap.size, 0, none⟩ = some (.func (.func 38) #[] #[]) := by subst hW0; go_simp
  have hBa : W0.cell? ⟨w.heap.size + 1 + 1, 0, none⟩ = some (.slice A us.length ca) := by subst hW0; go_simp
  have hBb : W0.cell? ⟨w.heap.size + 1 + 1 + 1, 0, none⟩ = some (.slice B vs.length cb) := by subst hW0; go_simp
  clear hW0
  have hS : ∀ k, (k < W0.heap.size ∧ k ≠ w.heap.size + 1) → k < W0.heap.size := fun k h => h.1
  have hread : ∀ W', Kept (fun k => k < W0.heap.size ∧ k ≠ w.heap.size + 1) W0 W' → W'.cell? ⟨w.heap.size + 1 + 1, 0, none⟩ = some (.slice A us.length ca) ∧ W'.cell? ⟨w.heap.size + 1 + 1 + 1, 0, none⟩ = some (.slice B vs.length cb) ∧ ∀ k, k < w.heap.size → W'.heap[k]? = w.heap[k]? := fun W' h =>
    ⟨(h.cell (p := ⟨w.heap.size + 1 + 1, 0, none⟩) ⟨by dsimp only; omega, by dsimp only; omega⟩).trans hBa, (h.cell (p := ⟨w.heap.size + 1 + 1 + 1, 0, none⟩) ⟨by dsimp only; omega, by dsimp only; omega⟩).trans hBb, fun k hk => (h k ⟨by omega, by omega⟩).trans (hb0.block k hk)⟩
  refine wpIn_rangeFunc_ownH rfl (by omega) (gf := 137) (lb := #[.pointer (some ⟨w.heap.size + 1 + 1, 0, none⟩), .pointer (some ⟨w.heap.size + 1 + 1 + 1, 0, none⟩)]) rfl trivial (enters_of Try.func137 (by kernel_rfl) rfl)
    (both_stops _ _ ca cb A B us vs _ w hP hQ M h1 HS.out.1 HS.out.2 W0 (by omega) hS hread) (fun h k => h.trans k) (kept_b hS) (Below.refl _ _) (fun _ => rfl)
    (fun pre W => (∃ O oc l, Boxed W (w.heap.size + 1) 23 (.slice O pre.length oc) ∧ OwnQ W0.heap.size W (.slice O pre.length oc) l ∧ l.length = pre.length ∧ Hid (l = pre.map fun x => canQ (x.1.a.val + x.1.b.val)) ∧ (∀ q ∈ l, q.S ≤ 2 * M)) ∧ Kept (fun k => k < W0.heap.size ∧ k ≠ w.heap.size + 1) W0 W ∧ W0.heap.size ≤ W.heap.size ∧ Below w.heap.size w W)
    (fun _ _ _ => False) ?hI (fun _ _ _ _ _ h _ _ => h) ?h0
    (fun x a' W => ∃ D, W0.heap.size ≤ D ∧ a' = { tmps := #[.slice A us.length ca, .slice B vs.length cb, .func (.func 38) #[] #[], undef, undef, .pointer (some ⟨w.heap.size, 0, none⟩), .pointer (some ⟨w.heap.size + 1, 0, none⟩), undef, .pointer (some ⟨D, 0, none⟩), .slice A us.length ca, .slice B vs.length cb,
        .func (.func 137) #[] #[.pointer (some ⟨w.heap.size + 1 + 1, 0, none⟩), .pointer (some ⟨w.heap.size + 1 + 1 + 1, 0, none⟩)], .int .i64 (x.1.k : Int), .agg #[.bool x.1.a.n.neg, .slice x.1.A1 x.1.a.n.ws.length x.1.a1, .bool x.1.a.d.neg, .slice x.1.A2 x.1.a.d.ws.length x.1.a2, .bool x.1.b.n.neg, .slice x.1.B1 x.1.b.n.ws.length x.1.b1, .bool x.1.b.d.neg, .slice x.1.B2 x.1.b.d.ws.length x.1.b2],
        undef, undef, undef, undef, undef, undef, undef, undef, undef, undef], defers := [] } ∧
      W.heap[D]? = some (.cells #[.bool x.1.a.n.neg, .slice x.1.A1 x.1.a.n.ws.length x.1.a1, .bool x.1.a.d.neg, .slice x.1.A2 x.1.a.d.ws.length x.1.a2, .bool x.1.b.n.neg, .slice x.1.B1 x.1.b.n.ws.length x.1.b1, .bool x.1.b.d.neg, .slice x.1.B2 x.1.b.d.ws.length x.1.b2] 114 (0, 0))) ?hAx ?assign ?body ?done ?stop
  case hI =>
    intro s X Y row hs hg hr
    obtain ⟨⟨O, oc, l, h1, h2, h3, h4, h5⟩, hk, hsz, hbl⟩ := hs
    refine ⟨⟨O, oc, l, ?_, h2.other hg (fun r e => (hr r e).2), h3, h4, h5⟩, ?_, Nat.le_trans hsz hg.size, hbl.grown hg hbl.size (fun r e => by have := (hr r e).1; omega)⟩
    · exact h1.kept hg (fun e' => by obtain ⟨_, o, ho, hc⟩ := hr _ e'.symm; rw [show X.heap[w.heap.size + 1]? = _ from h1] at ho; cases ho; cases hc)
    · intro k hk'
      refine (hg.block k ?_ ?_).trans (hk k hk')
      · exact Nat.lt_of_lt_of_le hk'.1 hsz
      · intro e; have := (hr k e.symm).1; omega
  case h0 => exact ⟨⟨none, 0, [], hBo, OwnQ.nil _ _, rfl, Lib.hid rfl, fun q hq => by cases hq⟩, Kept.refl _ _, Nat.le_refl _, hb0⟩
  case hAx =>
    rintro x a' u X Y row ⟨D, h1, h2, h3⟩ hg hr
    refine ⟨D, h1, h2, (hg.block D (Array.getElem?_eq_some_iff.1 h3).1 (fun e => ?_)).trans h3⟩
    obtain ⟨_, o, ho, hc⟩ := hr D e.symm
    rw [h3] at ho; cases ho; cases hc
  case assign =>
    intro l pre x W K hI hK
    unfold Pr.enc
    gi_wp2
    obtain ⟨⟨O, oc, l0, h2, h3, h4, h5, h6⟩, hk, hsz, hbl⟩ := hI
    have hba : ∀ o, Below W.heap.size W (W.alloc o) := fun o => bl_alloc W o
    refine hK _ _ ?_ ?_ ?_ ⟨W.heap.size, hsz, rfl, heap_alloc_new W _⟩
    · exact (keepsOthers_of_below (hba _)).from _
    · exact Kept.below (hba _) (fun k hk => Nat.lt_of_lt_of_le hk.1 hsz)
    · exact ⟨⟨O, oc, l0, h2.alloc _, h3.below (hba _), h4, h5, h6⟩, hk.trans (Kept.below (hba _) (fun k hk => Nat.lt_of_lt_of_le hk.1 hsz)), Nat.le_trans hsz (hba _).size, bl_trans hbl (hba _)⟩
  case body =>
    rintro l pre x a' W hl hlr ⟨⟨O, oc, r, g1, g2, g3, g4, g5⟩, hk, hsz, hbl⟩ ⟨D, hD, rfl, hc⟩ hlt
    have hro : Try.prog.follows .mixedOrders = true := by kernel_rfl
    have c5 := (hk.cell (p := ⟨w.heap.size, 0, none⟩) ⟨by dsimp only; omega, by dsimp only; omega⟩).trans hBf
    have c6 := g1.cell
    have f6 := g1.frozen
    obtain ⟨x, ⟨hxa, hxb⟩, hsa, hsb⟩ := x
    have y : ∀ j, W.cell? ⟨D, j, none⟩ = _ := fun j => cell_of_row W D j _ _ (0, 0) hc
    have y0 := y 0
    have y1 := y 1
    have y2 := y 2
    have y3 := y 3
    have y4 := y 4
    have y5 := y 5
    have y6 := y 6
    have y7 := y 7
    simp at y0 y1 y2 y3 y4 y5 y6 y7
    clear y
    have hxa' : IsQ W (.agg #[.bool x.a.n.neg, .slice x.A1 x.a.n.ws.length x.a1, .bool x.a.d.neg, .slice x.A2 x.a.d.ws.length x.a2]) x.a := hxa.below hbl
    have hxb' : IsQ W (.agg #[.bool x.b.n.neg, .slice x.B1 x.b.n.ws.length x.b1, .bool x.b.d.neg, .slice x.B2 x.b.d.ws.length x.b2]) x.b := hxb.below hbl
    have hWd : Below W.heap.size W W.drew := (Below.refl W.heap.size W).drew
    have HLL : Hid (8 * (x.a.S + x.b.S) + 8 ≤ 35184372088832) := Lib.hid (by omega)
    have hln : pre.length + 1 ≤ 1099511627776 := by omega
    have hSB : ∀ W', Below W.heap.size W W' → (W'.cell? ⟨w.heap.size, 0, none⟩ = some (.func (.func 38) #[] #[]) ∧ W'.cell? ⟨D, 0, none⟩ = some (.bool x.a.n.neg) ∧ W'.cell? ⟨D, 1, none⟩ = some (.slice x.A1 x.a.n.ws.length x.a1) ∧ W'.cell? ⟨D, 2, none⟩ = some (.bool x.a.d.neg) ∧ W'.cell? ⟨D, 3, none⟩ = some (.slice x.A2 x.a.d.ws.length x.a2) ∧
      W'.cell? ⟨D, 4, none⟩ = some (.bool x.b.n.neg) ∧ W'.cell? ⟨D, 5, none⟩ = some (.slice x.B1 x.b.n.ws.length x.b1) ∧ W'.cell? ⟨D, 6, none⟩ = some (.bool x.b.d.neg) ∧ W'.cell? ⟨D, 7, none⟩ = some (.slice x.B2 x.b.d.ws.length x.b2)) := fun W' hb => ⟨bl_cell hb c5, bl_cell hb y0, bl_cell hb y1, bl_cell hb y2, bl_cell hb y3, bl_cell hb y4, bl_cell hb y5, bl_cell hb y6, bl_cell hb y7⟩
    refine wpIn_block ?_
    refine wpIn_region_held (fun W' => W'.cell? ⟨w.heap.size, 0, none⟩ = some (.func (.func 38) #[] #[]) ∧ W'.cell? ⟨D, 0, none⟩ = some (.bool x.a.n.neg) ∧ W'.cell? ⟨D, 1, none⟩ = some (.slice x.A1 x.a.n.ws.length x.a1) ∧ W'.cell? ⟨D, 2, none⟩ = some (.bool x.a.d.neg) ∧ W'.cell? ⟨D, 3, none⟩ = some (.slice x.A2 x.a.d.ws.length x.a2) ∧
      W'.cell? ⟨D, 4, none⟩ = some (.bool x.b.n.neg) ∧ W'.cell? ⟨D, 5, none⟩ = some (.slice x.B1 x.b.n.ws.length x.b1) ∧ W'.cell? ⟨D, 6, none⟩ = some (.bool x.b.d.neg) ∧ W'.cell? ⟨D, 7, none⟩ = some (.slice x.B2 x.b.d.ws.length x.b2)) hro ?hnd ?hL ?hS ?go
    case hnd =>
      intro o ho c
      simp only [List.mem_toArray, List.mem_cons, List.not_mem_nil, or_false] at ho
      rcases ho with rfl | rfl | rfl | rfl | rfl | rfl | rfl | rfl | rfl | rfl <;> (intro h; cases h)
    case hL => rintro ⟨a, w, h⟩; exact h
    case hS => exact ⟨c5, y0, y1, y2, y3, y4, y5, y6, y7⟩
    case go =>
      intro hS0
      refine wpAnyH_take (i := 1) (v := ?_) rfl (by kernel_rfl) (by kernel_rfl) (by kernel_rfl) (fun _ _ _ h => h) (Or.inl ⟨by rfl, ?_⟩) (by assumption) ?_
      rotate_left
      · intro w' hSw
        obtain ⟨e0, e1, e2, e3, e4, e5, e6, e7, e8⟩ := hSw
        go_simp
        all_goals (with_reducible rfl)
      try simp only [Act.put, List.setIfInBounds_toArray, List.set_cons_zero, List.set_cons_succ]
      refine wpAnyH_take (i := 2) (v := ?_) rfl (by kernel_rfl) (by kernel_rfl) (by kernel_rfl) (fun _ _ _ h => h) (Or.inl ⟨by rfl, ?_⟩) (by assumption) ?_
      rotate_left
      · intro w' hSw
        obtain ⟨e0, e1, e2, e3, e4, e5, e6, e7, e8⟩ := hSw
        go_simp
        all_goals (with_reducible rfl)
      try simp only [Act.put, List.setIfInBounds_toArray, List.set_cons_zero, List.set_cons_succ]
      refine wpAnyH_take (i := 3) (v := ?_) rfl (by kernel_rfl) (by kernel_rfl) (by kernel_rfl) (fun _ _ _ h => h) (Or.inl ⟨by rfl, ?_⟩) (by assumption) ?_
      rotate_left
      · intro w' hSw
        obtain ⟨e0, e1, e2, e3, e4, e5, e6, e7, e8⟩ := hSw
        go_simp
        all_goals (with_reducible rfl)
      try simp only [Act.put, List.setIfInBounds_toArray, List.set_cons_zero, List.set_cons_succ]
      refine wpAnyH_take (i := 4) (v := ?_) rfl (by kernel_rfl) (by kernel_rfl) (by kernel_rfl) (fun _ _ _ h => h) (Or.inl ⟨by rfl, ?_⟩) (by assumption) ?_
      rotate_left
      · intro w' hSw
        obtain ⟨e0, e1, e2, e3, e4, e5, e6, e7, e8⟩ := hSw
        go_simp
        all_goals (with_reducible rfl)
      try simp only [Act.put, List.setIfInBounds_toArray, List.set_cons_zero, List.set_cons_succ]
      refine wpAnyH_take (i := 5) (v := ?_) rfl (by kernel_rfl) (by kernel_rfl) (by kernel_rfl) (fun _ _ _ h => h) (Or.inl ⟨by rfl, ?_⟩) (by assumption) ?_
      rotate_left
      · intro w' hSw
        obtain ⟨e0, e1, e2, e3, e4, e5, e6, e7, e8⟩ := hSw
        go_simp
        all_goals (with_reducible rfl)
      try simp only [Act.put, List.setIfInBounds_toArray, List.set_cons_zero, List.set_cons_succ]
      refine wpAnyH_ready (rs := [0, 6]) (by kernel_rfl) (by simp) ?_
      refine AllReadyH.cons rfl (fun K hK => ?_) (AllReadyH.cons rfl (fun K hK => ?_) AllReadyH.nil)
      · go_simp
        refine hK.out _ _ (by assumption) ?_
        intro _
        clear hK K
        try simp only [Act.put, List.setIfInBounds_toArray, List.set_cons_zero, List.set_cons_succ]
        refine wpAnyH_ready (rs := [6]) (by kernel_rfl) (by simp) ?_
        refine AllReadyH.cons rfl (fun K hK => ?_) AllReadyH.nil
        go_simp
        refine (frac_Add_calls _ _ x.a x.b W.drew (hxa'.below hWd) (hxb'.below hWd) HLL.out).mono ?_
        rintro e w1 ⟨q, u, HQ, hSq, rfl, hN, hb1⟩
        obtain ⟨v5, v6, rfl, ⟨r5, A5, c5', rfl, h5'⟩, ⟨r6, A6, c6', rfl, h6'⟩⟩ := hN
        have hb9 := bl_trans hWd hb1
        dsimp only
        refine hK.out _ _ (hSB _ hb9) ?_
        intro hS1
        clear hK K
        have c6w := bl_cell hb9 c6
        try simp only [Act.put, List.setIfInBounds_toArray, List.set_cons_zero, List.set_cons_succ]
        refine wpAnyH_ready (rs := [7]) (by kernel_rfl) (by simp) ?_
        refine AllReadyH.cons rfl (fun K hK => ?_) AllReadyH.nil
        go_simp
        refine hK.out _ _ (hSB _ (bl_trans hb9 (bl_alloc _ _))) ?_
        intro hS2
        clear hK K
        have c6v := bl_cell (bl_alloc w1 (.cells #[.bool q.n.neg, .slice A5 q.n.ws.length c5', .bool q.d.neg, .slice A6 q.d.ws.length c6'] 43)) c6w
        try simp only [Act.put, List.setIfInBounds_toArray, List.set_cons_zero, List.set_cons_succ]
        obtain ⟨O2, oc2, w3, hr, hO3, c6z, f6z, hs3, hag, hbl3⟩ := with_step 23 43 hb9 ⟨_, _, rfl, ⟨r5, A5, c5', rfl, h5'⟩, ⟨r6, A6, c6', rfl, h6'⟩⟩ g2 g3 c6 f6 (by omega) hsz hln
        have hDne := g2.ne_block hc (by decide)
        have hFne : (Value.slice O pre.length oc).ownBlock ≠ some w.heap.size := fun e => by have := (g2.lt _ e).1; omega
        have hBne : (Value.slice O pre.length oc).ownBlock ≠ some (w.heap.size + 1) := fun e => by have := (g2.lt _ e).1; omega
        have cf3 := ag_cell hag c5 hFne
        have d0 := ag_cell hag y0 hDne
        have d1 := ag_cell hag y1 hDne
        have d2 := ag_cell hag y2 hDne
        have d3 := ag_cell hag y3 hDne
        have d4 := ag_cell hag y4 hDne
        have d5 := ag_cell hag y5 hDne
        have d6 := ag_cell hag y6 hDne
        have d7 := ag_cell hag y7 hDne
        refine wpAnyH_ready (rs := [8]) (by kernel_rfl) (by simp) ?_
        refine AllReadyH.cons rfl (fun K hK => ?_) AllReadyH.nil
        refine step_append_run rfl rfl rfl rfl hr ?_
        refine hK.out _ _ ⟨cf3, d0, d1, d2, d3, d4, d5, d6, d7⟩ ?_
        intro _
        clear hK K
        try simp only [Act.put, List.setIfInBounds_toArray, List.set_cons_zero, List.set_cons_succ]
        refine wpAnyH_ready (rs := [9]) (by kernel_rfl) (by simp) ?_
        refine AllReadyH.cons rfl (fun K hK => ?_) AllReadyH.nil
        go_simp
        refine hK.out _ _ ?_ ?_
        · refine ⟨?_, ?_, ?_, ?_, ?_, ?_, ?_, ?_, ?_⟩
          · rw [World.cell?_setCell_other _ _ _ _ (by intro e; injection e; omega)]; exact cf3
          · rw [World.cell?_setCell_other _ _ _ _ (by intro e; injection e; omega)]; exact d0
          · rw [World.cell?_setCell_other _ _ _ _ (by intro e; injection e; omega)]; exact d1
          · rw [World.cell?_setCell_other _ _ _ _ (by intro e; injection e; omega)]; exact d2
          · rw [World.cell?_setCell_other _ _ _ _ (by intro e; injection e; omega)]; exact d3
          · rw [World.cell?_setCell_other _ _ _ _ (by intro e; injection e; omega)]; exact d4
          · rw [World.cell?_setCell_other _ _ _ _ (by intro e; injection e; omega)]; exact d5
          · rw [World.cell?_setCell_other _ _ _ _ (by intro e; injection e; omega)]; exact d6
          · rw [World.cell?_setCell_other _ _ _ _ (by intro e; injection e; omega)]; exact d7
        intro _
        clear hK K
        refine wpAnyH_done (by kernel_rfl) ?_ _
        obtain ⟨p1, p2, p3, p4, p5, p6, p7⟩ := with_end hag hs3 hbl3 hO3 g1 g2 hk hsz hbl (by omega) (by omega)
        refine ⟨p1, p2, ⟨O2, oc2, r ++ [q], by rw [List.length_append]; exact p3, by rw [List.length_append]; exact p4, by simp [g3], ?_, ?_⟩, p5, p6, p7⟩
        · have e := g4.out
          rw [e, HQ.out]
          exact Lib.hid (by simp)
        · intro q' hq'
          rcases List.mem_append.1 hq' with h | h
          · exact g5 q' h
          · simp at h; subst h; omega
      · go_simp
        refine (frac_Add_calls _ _ x.a x.b W.drew (hxa'.below hWd) (hxb'.below hWd) HLL.out).mono ?_
        rintro e w1 ⟨q, u, HQ, hSq, rfl, hN, hb1⟩
        obtain ⟨v5, v6, rfl, ⟨r5, A5, c5', rfl, h5'⟩, ⟨r6, A6, c6', rfl, h6'⟩⟩ := hN
        have hb9 := bl_trans hWd hb1
        dsimp only
        refine hK.out _ _ (hSB _ hb9) ?_
        intro hS1
        clear hK K
        have c6w := bl_cell hb9 c6
        try simp only [Act.put, List.setIfInBounds_toArray, List.set_cons_zero, List.set_cons_succ]
        refine wpAnyH_ready (rs := [0, 7]) (by kernel_rfl) (by simp) ?_
        refine AllReadyH.cons rfl (fun K hK => ?_) (AllReadyH.cons rfl (fun K hK => ?_) AllReadyH.nil)
        · go_simp
          refine hK.out _ _ (by assumption) ?_
          intro _
          clear hK K
          try simp only [Act.put, List.setIfInBounds_toArray, List.set_cons_zero, List.set_cons_succ]
          refine wpAnyH_ready (rs := [7]) (by kernel_rfl) (by simp) ?_
          refine AllReadyH.cons rfl (fun K hK => ?_) AllReadyH.nil
          go_simp
          refine hK.out _ _ (hSB _ (bl_trans hb9 (bl_alloc _ _))) ?_
          intro hS2
          clear hK K
          have c6v := bl_cell (bl_alloc w1 (.cells #[.bool q.n.neg, .slice A5 q.n.ws.length c5', .bool q.d.neg, .slice A6 q.d.ws.length c6'] 43)) c6w
          try simp only [Act.put, List.setIfInBounds_toArray, List.set_cons_zero, List.set_cons_succ]
          obtain ⟨O2, oc2, w3, hr, hO3, c6z, f6z, hs3, hag, hbl3⟩ := with_step 23 43 hb9 ⟨_, _, rfl, ⟨r5, A5, c5', rfl, h5'⟩, ⟨r6, A6, c6', rfl, h6'⟩⟩ g2 g3 c6 f6 (by omega) hsz hln
          have hDne := g2.ne_block hc (by decide)
          have hFne : (Value.slice O pre.length oc).ownBlock ≠ some w.heap.size := fun e => by have := (g2.lt _ e).1; omega
          have hBne : (Value.slice O pre.length oc).ownBlock ≠ some (w.heap.size + 1) := fun e => by have := (g2.lt _ e).1; omega
          have cf3 := ag_cell hag c5 hFne
          have d0 := ag_cell hag y0 hDne
          have d1 := ag_cell hag y1 hDne
          have d2 := ag_cell hag y2 hDne
          have d3 := ag_cell hag y3 hDne
          have d4 := ag_cell hag y4 hDne
          have d5 := ag_cell hag y5 hDne
          have d6 := ag_cell hag y6 hDne
          have d7 := ag_cell hag y7 hDne
          refine wpAnyH_ready (rs := [8]) (by kernel_rfl) (by simp) ?_
          refine AllReadyH.cons rfl (fun K hK => ?_) AllReadyH.nil
          refine step_append_run rfl rfl rfl rfl hr ?_
          refine hK.out _ _ ⟨cf3, d0, d1, d2, d3, d4, d5, d6, d7⟩ ?_
          intro _
          clear hK K
          try simp only [Act.put, List.setIfInBounds_toArray, List.set_cons_zero, List.set_cons_succ]
          refine wpAnyH_ready (rs := [9]) (by kernel_rfl) (by simp) ?_
          refine AllReadyH.cons rfl (fun K hK => ?_) AllReadyH.nil
          go_simp
          refine hK.out _ _ ?_ ?_
          · refine ⟨?_, ?_, ?_, ?_, ?_, ?_, ?_, ?_, ?_⟩
            · rw [World.cell?_setCell_other _ _ _ _ (by intro e; injection e; omega)]; exact cf3
            · rw [World.cell?_setCell_other _ _ _ _ (by intro e; injection e; omega)]; exact d0
            · rw [World.cell?_setCell_other _ _ _ _ (by intro e; injection e; omega)]; exact d1
            · rw [World.cell?_setCell_other _ _ _ _ (by intro e; injection e; omega)]; exact d2
            · rw [World.cell?_setCell_other _ _ _ _ (by intro e; injection e; omega)]; exact d3
            · rw [World.cell?_setCell_other _ _ _ _ (by intro e; injection e; omega)]; exact d4
            · rw [World.cell?_setCell_other _ _ _ _ (by intro e; injection e; omega)]; exact d5
            · rw [World.cell?_setCell_other _ _ _ _ (by intro e; injection e; omega)]; exact d6
            · rw [World.cell?_setCell_other _ _ _ _ (by intro e; injection e; omega)]; exact d7
          intro _
          clear hK K
          refine wpAnyH_done (by kernel_rfl) ?_ _
          obtain ⟨p1, p2, p3, p4, p5, p6, p7⟩ := with_end hag hs3 hbl3 hO3 g1 g2 hk hsz hbl (by omega) (by omega)
          refine ⟨p1, p2, ⟨O2, oc2, r ++ [q], by rw [List.length_append]; exact p3, by rw [List.length_append]; exact p4, by simp [g3], ?_, ?_⟩, p5, p6, p7⟩
          · have e := g4.out
            rw [e, HQ.out]
            exact Lib.hid (by simp)
          · intro q' hq'
            rcases List.mem_append.1 hq' with h | h
            · exact g5 q' h
            · simp at h; subst h; omega
        · go_simp
          refine hK.out _ _ (hSB _ (bl_trans hb9 (bl_alloc _ _))) ?_
          intro hS2
          clear hK K
          have c6v := bl_cell (bl_alloc w1 (.cells #[.bool q.n.neg, .slice A5 q.n.ws.length c5', .bool q.d.neg, .slice A6 q.d.ws.length c6'] 43)) c6w
          try simp only [Act.put, List.setIfInBounds_toArray, List.set_cons_zero, List.set_cons_succ]
          refine wpAnyH_ready (rs := [0]) (by kernel_rfl) (by simp) ?_
          refine AllReadyH.cons rfl (fun K hK => ?_) AllReadyH.nil
          go_simp
          refine hK.out _ _ (by assumption) ?_
          intro _
          clear hK K
          try simp only [Act.put, List.setIfInBounds_toArray, List.set_cons_zero, List.set_cons_succ]
          obtain ⟨O2, oc2, w3, hr, hO3, c6z, f6z, hs3, hag, hbl3⟩ := with_step 23 43 hb9 ⟨_, _, rfl, ⟨r5, A5, c5', rfl, h5'⟩, ⟨r6, A6, c6', rfl, h6'⟩⟩ g2 g3 c6 f6 (by omega) hsz hln
          have hDne := g2.ne_block hc (by decide)
          have hFne : (Value.slice O pre.length oc).ownBlock ≠ some w.heap.size := fun e => by have := (g2.lt _ e).1; omega
          have hBne : (Value.slice O pre.length oc).ownBlock ≠ some (w.heap.size + 1) := fun e => by have := (g2.lt _ e).1; omega
          have cf3 := ag_cell hag c5 hFne
          have d0 := ag_cell hag y0 hDne
          have d1 := ag_cell hag y1 hDne
          have d2 := ag_cell hag y2 hDne
          have d3 := ag_cell hag y3 hDne
          have d4 := ag_cell hag y4 hDne
          have d5 := ag_cell hag y5 hDne
          have d6 := ag_cell hag y6 hDne
          have d7 := ag_cell hag y7 hDne
          refine wpAnyH_ready (rs := [8]) (by kernel_rfl) (by simp) ?_
          refine AllReadyH.cons rfl (fun K hK => ?_) AllReadyH.nil
          refine step_append_run rfl rfl rfl rfl hr ?_
          refine hK.out _ _ ⟨cf3, d0, d1, d2, d3, d4, d5, d6, d7⟩ ?_
          intro _
          clear hK K
          try simp only [Act.put, List.setIfInBounds_toArray, List.set_cons_zero, List.set_cons_succ]
          refine wpAnyH_ready (rs := [9]) (by kernel_rfl) (by simp) ?_
          refine AllReadyH.cons rfl (fun K hK => ?_) AllReadyH.nil
          go_simp
          refine hK.out _ _ ?_ ?_
          · refine ⟨?_, ?_, ?_, ?_, ?_, ?_, ?_, ?_, ?_⟩
            · rw [World.cell?_setCell_other _ _ _ _ (by intro e; injection e; omega)]; exact cf3
            · rw [World.cell?_setCell_other _ _ _ _ (by intro e; injection e; omega)]; exact d0
            · rw [World.cell?_setCell_other _ _ _ _ (by intro e; injection e; omega)]; exact d1
            · rw [World.cell?_setCell_other _ _ _ _ (by intro e; injection e; omega)]; exact d2
            · rw [World.cell?_setCell_other _ _ _ _ (by intro e; injection e; omega)]; exact d3
            · rw [World.cell?_setCell_other _ _ _ _ (by intro e; injection e; omega)]; exact d4
            · rw [World.cell?_setCell_other _ _ _ _ (by intro e; injection e; omega)]; exact d5
            · rw [World.cell?_setCell_other _ _ _ _ (by intro e; injection e; omega)]; exact d6
            · rw [World.cell?_setCell_other _ _ _ _ (by intro e; injection e; omega)]; exact d7
          intro _
          clear hK K
          refine wpAnyH_done (by kernel_rfl) ?_ _
          obtain ⟨p1, p2, p3, p4, p5, p6, p7⟩ := with_end hag hs3 hbl3 hO3 g1 g2 hk hsz hbl (by omega) (by omega)
          refine ⟨p1, p2, ⟨O2, oc2, r ++ [q], by rw [List.length_append]; exact p3, by rw [List.length_append]; exact p4, by simp [g3], ?_, ?_⟩, p5, p6, p7⟩
          · have e := g4.out
            rw [e, HQ.out]
            exact Lib.hid (by simp)
          · intro q' hq'
            rcases List.mem_append.1 hq' with h | h
            · exact g5 q' h
            · simp at h; subst h; omega
  case done =>
    rintro D xs W hD hxs ⟨⟨O, oc, l, g1, g2, g3, g4, g5⟩, hk, hsz, hbl⟩ hK
    have c6 := g1.cell
    have f6 := g1.frozen
    gi_wp2
    have hsz4 : (W.setCell ⟨w.heap.size + 1, 0, none⟩ (.slice O xs.length oc)).heap.size = W.heap.size := by simp [World.setCell]
    have hK' : (W.setCell ⟨w.heap.size + 1, 0, none⟩ (.slice O xs.length oc)).heap[D]? = some (.deferred (some [])) := (Below.heap_setCell _ _ _ _ (show D ≠ w.heap.size + 1 by omega)).trans hK
    have hcell : (W.setCell ⟨w.heap.size + 1, 0, none⟩ (.slice O xs.length oc)).cell? ⟨w.heap.size + 1, 0, none⟩ = some (.slice O xs.length oc) := by go_simp
    have hO1 := g2.setFar (p := ⟨w.heap.size + 1, 0, none⟩) (by dsimp only; omega) (.slice O xs.length oc)
    have hb1 : Below w.heap.size w (W.setCell ⟨w.heap.size + 1, 0, none⟩ (.slice O xs.length oc)) := hbl.setCell (p := ⟨w.heap.size + 1, 0, none⟩) (Nat.le_succ _) _
    generalize World.setCell W _ _ = W1 at *
    have hgr := grownBy_putObj' W1 D (.deferred none)
    have hc2 : (W1.putObj D (.deferred none)).cell? ⟨w.heap.size + 1, 0, none⟩ = some (.slice O xs.length oc) := by
      rw [← hcell]; exact World.cell?_of_block (w := W1) (World.putObj_heap_other (by dsimp only; omega))
    refine ⟨by simp, .inl ⟨_, _, rfl, run_takeDeferred hK', ?_⟩⟩
    refine ⟨.slice O xs.length oc, by simp [results, Try.results97, go_sem, hc2], ?_⟩
    refine ⟨l, _, ?_, g5, rfl, OwnQ.mono (hO1.other hgr (fun r e => by cases e; exact ⟨_, hK', rfl⟩)) (by omega), hb1.grown hgr hb1.size (fun k e => by cases e; omega)⟩
    rw [g4.out]
    refine Lib.hid (List.ext_getElem ?_ fun i h1 h2 => ?_)
    · have := hxs.1; simp [addR] at this ⊢; exact this
    · have hi : i < xs.length := by simpa using h1
      obtain ⟨e1, e2, e3, _⟩ := hxs.2 i (xs[i]).1 (by rw [List.getElem?_map, List.getElem?_eq_getElem hi]; rfl)
      simp only [List.getElem_map, addR, List.getElem_range]
      rw [e2, e3]
  case stop =>
    rintro D c pre W _ _ h _
    exact h.elim
end Go.Proofs.Ytnmmgegnioihmaa
namespace Go.Proofs.Ytnmmgegnioihmaa
open Go.RowKit

set_option maxHeartbeats 1000000 in
theorem vec_Add_calls (A B : Option Addr) (ca cb : Nat) (us vs : List Qr) (M : Nat) (w : World) (hP : QRow w A ca us) (hQ : QRow w B cb vs) (sP : ∀ q ∈ us, q.S ≤ M) (sQ : ∀ q ∈ vs, q.S ≤ M) (h1 : 1 ≤ M) (hM : M ≤ 1099511627776) (hlen : us.length ≤ 1099511627 ∧ vs.length ≤ 1099511627) :
    Calls Try.prog 78 #[.slice A us.length ca, .slice B vs.length cb] w (PostR w (addR us vs (max us.length vs.length)) (2 * M)) := by
  have HS := Lib.hid (And.intro sP (And.intro sQ (And.intro h1 (And.intro hM hlen))))
  clear sP sQ h1 hM hlen
  go_enter Try.func78, Try.ntmps78
  go_wp2_with (go_at_call 97; (with_reducible refine (with_Add_calls A B ca cb us vs M _ hP hQ HS.out.1 HS.out.2.1 HS.out.2.2.1 HS.out.2.2.2.1 HS.out.2.2.2.2).mono ?_); rintro e w1 ⟨l, v, HL, hS, rfl, hO, hb⟩)
  go_ret
  exact ⟨l, v, HL, hS, rfl, hO, hb⟩
/-- the sum of two lists of numbers, to the longer's end -/
def addV (xs ys : List Rat) : List Rat := (List.range (max xs.length ys.length)).map fun k => xs.getD k 0 + ys.getD k 0
theorem addV_length (xs ys : List Rat) : (addV xs ys).length = max xs.length ys.length := by simp [addV]
theorem addV_getD (xs ys : List Rat) (k : Nat) : (addV xs ys).getD k 0 = xs.getD k 0 + ys.getD k 0 := by
  unfold addV
  by_cases h : k < max xs.length ys.length
  · rw [List.getD_eq_getElem?_getD, List.getElem?_map, List.getElem?_range h]; rfl
  · rw [List.getD_eq_getElem?_getD, List.getD_eq_getElem?_getD, List.getD_eq_getElem?_getD, List.getElem?_eq_none (by simp; omega), List.getElem?_eq_none (by omega), List.getElem?_eq_none (by omega)]
    simp [Rat.add_zero]
/-- the numbers of a row -/
def valsR (l : List Qr) : List Rat := l.map Qr.val
theorem valsR_length (l : List Qr) : (valsR l).length = l.length := by simp [valsR]
theorem valsR_getD (l : List Qr) (k : Nat) : (valsR l).getD k 0 = (l.getD k zeroQ).val := by
  unfold valsR
  rw [List.getD_eq_getElem?_getD, List.getD_eq_getElem?_getD, List.getElem?_map]
  cases l[k]? with
  | none => simp [zeroQ_val]
  | some q => rfl
theorem valsR_can (xs : List Rat) : valsR (xs.map canQ) = xs := by
  unfold valsR
  rw [List.map_map]
  conv => rhs; rw [← List.map_id xs]
  exact List.map_congr_left fun x _ => canQ_val x
theorem addR_addV (us vs : List Qr) : addR us vs (max us.length vs.length) = addV (valsR us) (valsR vs) := by
  unfold addR addV
  rw [valsR_length, valsR_length]
  exact List.map_congr_left fun k _ => by rw [valsR_getD, valsR_getD]
/-- the sum of rows -/
def sumL (ls : List (List Qr)) : List Rat := ls.foldl (fun acc l => addV acc (valsR l)) []
theorem sumL_snoc (ls : List (List Qr)) (l : List Qr) : sumL (ls ++ [l]) = addV (sumL ls) (valsR l) := by simp [sumL]
theorem sumL_len {ls : List (List Qr)} {N : Nat} (h : ∀ l ∈ ls, l.length ≤ N) : (sumL ls).length ≤ N := by
  have key : ∀ (ls : List (List Qr)) (acc : List Rat), acc.length ≤ N → (∀ l ∈ ls, l.length ≤ N) → (ls.foldl (fun acc l => addV acc (valsR l)) acc).length ≤ N := by
    intro ls
    induction ls with
    | nil => intro acc h _; exact h
    | cons l ls ih =>
      intro acc h1 h2
      refine ih _ ?_ (fun x hx => h2 x (List.mem_cons_of_mem _ hx))
      rw [addV_length, valsR_length]
      have := h2 l List.mem_cons_self
      omega
  exact key ls [] (Nat.zero_le _) h
set_option maxHeartbeats 2000000 in
theorem vec_Sum_calls (A : Option Addr) (c : Nat) (ls : List (List Qr)) (M : Nat) (w : World) (h : LRow w A c ls) (hl : ∀ l ∈ ls, l.length ≤ 1048576) (hS : ∀ l ∈ ls, ∀ q ∈ l, q.S ≤ M) (h1 : 1 ≤ M) (hM : M ≤ 8589934592) (hn : ls.length ≤ 7) :
    Calls Try.prog 84 #[.slice A ls.length c] w (PostR w (sumL ls) (2 ^ ls.length * M)) := by
  have HL := Lib.hid hl
  have HS := Lib.hid hS
  clear hl hS
  go_enter Try.func84, Try.ntmps84
  go_wp2
  go_loopw [2, 7] (fun o i wr => ∃ (k : Nat) (l : List Qr), k ≤ ls.length ∧ i = .int .i64 k ∧ OwnQ w.heap.size wr o l ∧ Hid (l = (sumL (ls.take k)).map canQ) ∧ Hid (∀ q ∈ l, q.S ≤ 2 ^ k * M) ∧ Below w.heap.size w wr) (fun _ i _ => ls.length - (intOf i).toNat)
  case atStart => exact ⟨0, [], Nat.zero_le _, rfl, OwnQ.nil _ _, Lib.hid rfl, Lib.hid (fun q hq => by cases hq), Below.refl _ _⟩
  case round =>
    obtain ⟨k, l, hk, rfl, hO, HLL, HSS, hb⟩ := hrel
    obtain ⟨O, oc, rfl, _⟩ := hO.form
    by_cases hlt : k < ls.length
    · obtain ⟨b, off, B, d, rfl, hc, hr⟩ := (h.below hb).at hlt
      obtain ⟨r, hre⟩ : ∃ r, r = ls.getD k [] := ⟨_, rfl⟩
      have hmem : r ∈ ls := by rw [hre, List.getD_eq_getElem?_getD, List.getElem?_eq_getElem hlt]; exact List.getElem_mem hlt
      have hts : ls.take (k + 1) = ls.take k ++ [r] := by rw [List.take_succ_eq_append_getElem hlt, hre, List.getD_eq_getElem?_getD, List.getElem?_eq_getElem hlt]; rfl
      have HTS := Lib.hid hts
      rw [← hre] at hc hr
      clear hre hts
      have hp2 : 1 ≤ 2 ^ k := Nat.one_le_two_pow
      have hp : 2 ^ k ≤ 128 := by have : 2 ^ k ≤ 2 ^ 7 := Nat.pow_le_pow_right (by omega) (by omega); omega
      have hB : 1 ≤ 2 ^ k * M ∧ M ≤ 2 ^ k * M ∧ 2 ^ k * M ≤ 1099511627776 := by
        have h2 : 1 * M ≤ 2 ^ k * M := Nat.mul_le_mul_right _ hp2
        have h3 : 2 ^ k * M ≤ 128 * M := Nat.mul_le_mul_right _ hp
        omega
      have hll : l.length ≤ 1048576 := by
        rw [HLL.out, List.length_map]
        exact sumL_len fun x hx => HL.out x (List.mem_of_mem_take hx)
      have hrl := HL.out r hmem
      have HB := Lib.hid hB
      have hrS : Hid (∀ q ∈ r, q.S ≤ 2 ^ k * M) := Lib.hid fun q hq => Nat.le_trans (HS.out r hmem q hq) HB.out.2.1
      clear hp hp2 hB hmem
      go_wp2_with (go_at_call 78; (with_reducible refine (vec_Add_calls O B oc d l r (2 ^ k * M) _ hO.isR.row.2 hr HSS.out hrS.out HB.out.1 (by have := HB.out; omega) (by omega)).mono ?_); rintro e w1 ⟨l2, v2, HL2, HS2, rfl, hO2, hb2⟩)
      go_roundw
      case rel =>
        refine ⟨k + 1, l2, by omega, by simp, hO2.mono hb.size, Lib.hid ?_, Lib.hid fun q hq => ?_, bl_trans hb hb2⟩
        · rw [HL2.out, HTS.out, sumL_snoc, addR_addV, HLL.out, valsR_can]
        · have := HS2 q hq; rw [Nat.pow_succ, Nat.mul_comm (2 ^ k) 2, Nat.mul_assoc]; exact this
      case measure => simp [intOf]; omega
    · obtain rfl : k = ls.length := by omega
      rw [List.take_length] at HLL
      go_wp2
      go_ret
      refine ⟨l, _, HLL, HSS.out, rfl, hO, hb⟩
set_option maxHeartbeats 1000000 in
theorem settle_Day_calls (A : Option Addr) (c : Nat) (ls : List (List Qr)) (M : Nat) (w : World) (h : LRow w A c ls) (hl : ∀ l ∈ ls, l.length ≤ 1048576) (hS : ∀ l ∈ ls, ∀ q ∈ l, q.S ≤ M) (h1 : 1 ≤ M) (hM : M ≤ 8589934592) (hn : ls.length ≤ 7) :
    Calls Try.prog 44 #[.slice A ls.length c] w (PostR w (sumL ls) (2 ^ ls.length * M)) := by
  have HS := Lib.hid (And.intro hl (And.intro hS (And.intro h1 (And.intro hM hn))))
  clear hl hS h1 hM hn
  go_enter Try.func44, Try.ntmps44
  go_wp2_with (go_at_call 84; (with_reducible refine (vec_Sum_calls A c ls M _ h HS.out.1 HS.out.2.1 HS.out.2.2.1 HS.out.2.2.2.1 HS.out.2.2.2.2).mono ?_); rintro e w1 ⟨l, v, HL, hS, rfl, hO, hb⟩)
  go_ret
  exact ⟨l, v, HL, hS, rfl, hO, hb⟩
end Go.Proofs.Ytnmmgegnioihmaa
