/- Package vec: at, FromInts, Resize. -/
import Derived.Test.YtnmmgegnioihmaaQRows
set_option linter.unusedVariables false
set_option linter.unusedSimpArgs false
namespace Go.Proofs.Ytnmmgegnioihmaa
open Go.RowKit

/-- a row of the call's own, of these rationals -/
def PostR (w : World) (xs : List Rat) (B : Nat) (e : Ending) (w' : World) : Prop := ∃ l v, Hid (l = xs.map canQ) ∧ (∀ q ∈ l, q.S ≤ B) ∧ e = .returned v ∧ OwnQ w.heap.size w' v l ∧ Below w.heap.size w w'
set_option maxHeartbeats 1000000 in
theorem vec_at_calls (v : Value) (l : List Qr) (k : Nat) (w : World) (h : IsR w v l) :
    Calls Try.prog 102 #[v, .int .i64 (k : Int)] w fun e w' => ∃ u, e = .returned u ∧ IsQ w u (l.getD k zeroQ) ∧ Below w.heap.size w w' := by
  obtain ⟨A, c, rfl, hr⟩ := h
  by_cases hlt : k < l.length
  · obtain ⟨b, off, A1, c1, A2, c2, rfl, y0, y1, y2, y3, hq⟩ := hr.at hlt
    generalize l.getD k zeroQ = q at *
    have Y0 := fun o => bl_cell (bl_alloc w o) y0
    have Y1 := fun o => bl_cell (bl_alloc w o) y1
    have Y2 := fun o => bl_cell (bl_alloc w o) y2
    have Y3 := fun o => bl_cell (bl_alloc w o) y3
    have hb : b < w.heap.size := World.block_lt_of_cell? w _ y0
    have hne : ¬ b = w.heap.size := by omega
    go_enter Try.func102, Try.ntmps102
    go_wp2
    exact bodyPost_ret (v := .agg #[.bool q.n.neg, .slice A1 q.n.ws.length c1, .bool q.d.neg, .slice A2 q.d.ws.length c2]) (by simp [results, Try.results102, go_sem]) rfl ⟨_, rfl, hq, bl_alloc _ _⟩
  · have he : l.getD k zeroQ = zeroQ := by rw [List.getD_eq_getElem?_getD, List.getElem?_eq_none (by omega)]; rfl
    rw [he]
    go_enter Try.func102, Try.ntmps102
    go_wp2
    exact bodyPost_ret (v := .agg #[.bool false, .slice none 0 0, .bool false, .slice none 0 0]) (by simp [results, Try.results102, go_sem]) rfl ⟨_, rfl, isZero w, bl_alloc _ _⟩
def enc64 (i : Int) : Value := .int .i64 i
theorem row64_at {w : World} {A : Option Addr} {c : Nat} {xs : List Int} (h : Row enc64 w A c xs) {k : Nat} (hk : k < xs.length) : ∃ b off, A = some ⟨b, off, none⟩ ∧ w.cell? ⟨b, off + k, none⟩ = some (.int .i64 (xs.getD k 0)) := by
  obtain ⟨b, off, e, hc⟩ := h.rd (by rintro rfl; simp at hk)
  exact ⟨b, off, e, hc k _ (by rw [List.getD_eq_getElem?_getD, List.getElem?_eq_getElem hk]; rfl)⟩
set_option maxHeartbeats 2000000 in
theorem vec_FromInts_calls (A : Option Addr) (c : Nat) (xs : List Int) (w : World) (h : Row enc64 w A c xs) (hr : ∀ x ∈ xs, -9223372036854775808 ≤ x ∧ x ≤ 9223372036854775807) (hlen : xs.length ≤ 1099511627776) :
    Calls Try.prog 42 #[.slice A xs.length c] w (PostR w (xs.map fun i : Int => (i : Rat)) 3) := by
  go_enter Try.func42, Try.ntmps42
  go_wp2
  go_loopw [2, 7] (fun o i wr => ∃ (k : Nat) (O : Option Addr) (oc : Nat) (l : List Qr), k ≤ xs.length ∧ i = .int .i64 k ∧ o = .slice O k oc ∧ OwnQ w.heap.size wr (.slice O k oc) l ∧ l.length = k ∧ Hid (l = (xs.take k).map fun i : Int => canQ (i : Rat)) ∧ (∀ q ∈ l, q.S ≤ 3) ∧ Below w.heap.size w wr) (fun _ i _ => xs.length - (intOf i).toNat)
  case atStart => exact ⟨0, none, 0, [], Nat.zero_le _, rfl, rfl, OwnQ.nil _ _, rfl, Lib.hid (by simp), (fun q hq => by cases hq), Below.refl _ _⟩
  case round =>
    obtain ⟨k, O, oc, l, hk, rfl, rfl, hO, hl, HL, hS, hb⟩ := hrel
    by_cases hlt : k < xs.length
    · obtain ⟨b, off, rfl, hc⟩ := row64_at (h.below hb) hlt
      have hx := hr (xs.getD k 0) (by rw [List.getD_eq_getElem?_getD, List.getElem?_eq_getElem hlt]; simp)
      obtain ⟨x, hxe⟩ : ∃ x, x = xs.getD k 0 := ⟨_, rfl⟩
      have HX := Lib.hid hxe
      rw [← hxe] at hc hx
      clear hxe
      have H1 := Lib.hid hx.1
      have H2 := Lib.hid hx.2
      clear hx
      go_wp2_with (first
        | (go_at_call 73; refine (frac_FromInt64_calls x _ H1.out H2.out).mono ?_; rintro e w2 ⟨q, u, HQ, hSq, rfl, hN, hb2⟩; obtain ⟨v5, v6, rfl, ⟨r5, A5, c5, rfl, h5⟩, ⟨r6, A6, c6, rfl, h6⟩⟩ := hN)
        | (at_builtin; refine append_q1 q _ _ _ _ _ _ _ rfl _ _ rfl w.heap.size wr.heap.size (.slice O k oc) l rfl (hO.below hb2) rfl ⟨_, _, rfl, ⟨r5, A5, c5, rfl, h5⟩, ⟨r6, A6, c6, rfl, h6⟩⟩ (fun k e => (hO.lt k e).2) (by omega) (Nat.le_trans hb.size hb2.size) ?_; intro O2 oc2 w3 hO2 hb3))
      go_roundw
      case rel =>
        refine ⟨k + 1, O2, oc2, l ++ [q], by omega, by simp, rfl, by rw [← hl]; exact hO2, by simp [hl], ?_, ?_, hb3 w (Nat.le_refl _) (hb.trans (hb2.mono hb.size))⟩
        · have := HL.out
          rw [List.take_add_one, List.getElem?_eq_getElem hlt, Option.toList_some, List.map_append, ← HL.out, HQ.out, HX.out, List.getD_eq_getElem?_getD, List.getElem?_eq_getElem hlt]
          exact Lib.hid rfl
        · intro r hr
          rw [List.mem_append] at hr
          rcases hr with hr | hr
          · exact hS r hr
          · simp at hr; subst hr; exact hSq
      case measure => simp [intOf]; omega
    · obtain rfl : k = xs.length := by omega
      go_wp2
      go_ret
      exact ⟨l, _, by rw [List.take_length] at HL; rw [List.map_map]; exact HL, hS, rfl, hO, hb⟩
theorem getD_S {l : List Qr} {M : Nat} (h : ∀ q ∈ l, q.S ≤ M) (h1 : 1 ≤ M) (k : Nat) : (l.getD k zeroQ).S ≤ M := by
  rw [List.getD_eq_getElem?_getD]
  by_cases hk : k < l.length
  · rw [List.getElem?_eq_getElem hk]; exact h _ (List.getElem_mem hk)
  · rw [List.getElem?_eq_none (by omega)]; exact h1
/-- the values of a vector, padded or cut -/
def padR (l : List Qr) (n : Nat) : List Rat := (List.range n).map fun k => (l.getD k zeroQ).val
theorem padR_succ (l : List Qr) (n : Nat) : padR l (n + 1) = padR l n ++ [(l.getD n zeroQ).val] := by simp [padR, List.range_succ]
set_option maxHeartbeats 2000000 in
theorem vec_Resize_calls (A : Option Addr) (c : Nat) (l : List Qr) (n : Int) (M : Nat) (w : World) (h : IsR w (.slice A l.length c) l) (hS : ∀ q ∈ l, q.S ≤ M) (h1 : 1 ≤ M) (hM : M ≤ 1099511627776) :
    Calls Try.prog 55 #[.slice A l.length c, .int .i64 n] w (PostR w (padR l (min (max n 0) 65536).toNat) (M + 1)) := by
  obtain ⟨m, hm⟩ : ∃ m : Nat, m = (min (max n 0) 65536).toNat := ⟨_, rfl⟩
  have hm' : min (max n 0) 65536 = (m : Int) := by omega
  have hmn : m ≤ 65536 := by omega
  rw [← hm]
  clear hm
  obtain ⟨p, hp⟩ : ∃ p : Int, p = max n 0 := ⟨_, rfl⟩
  have h7 : ∀ ts t W, (Builtin.max_ ts t #[.int .i64 n, .int .i64 0]).run Try.prog W = .ok (.int .i64 p) W := fun ts t W => by
    rw [run_max_int2, hp]; congr 2; split <;> omega
  have h8 : ∀ ts t W, (Builtin.min_ ts t #[.int .i64 p, .int .i64 65536]).run Try.prog W = .ok (.int .i64 (m : Int)) W := fun ts t W => by
    rw [run_min_int2, ← hm', hp]; congr 2; split <;> omega
  clear hm' hp
  have HS := Lib.hid hS
  clear hS
  go_enter Try.func55, Try.ntmps55
  go_wp2
  clear h7 h8
  go_loopw [4, 9] (fun o i wr => ∃ (k : Nat) (O : Option Addr) (oc : Nat) (r : List Qr), k ≤ m ∧ i = .int .i64 k ∧ o = .slice O k oc ∧ OwnQ w.heap.size wr (.slice O k oc) r ∧ r.length = k ∧ Hid (r = (padR l k).map canQ) ∧ (∀ q ∈ r, q.S ≤ M + 1) ∧ Below w.heap.size w wr) (fun _ i _ => m - (intOf i).toNat)
  case atStart => exact ⟨0, none, 0, [], Nat.zero_le _, rfl, rfl, OwnQ.nil _ _, rfl, Lib.hid rfl, (fun q hq => by cases hq), Below.refl _ _⟩
  case round =>
    obtain ⟨k, O, oc, r, hk, rfl, rfl, hO, hl, HL, hR, hb⟩ := hrel
    by_cases hlt : k < m
    · have hx := getD_S HS.out h1 k
      obtain ⟨x, hxe⟩ : ∃ x, x = l.getD k zeroQ := ⟨_, rfl⟩
      have HX := Lib.hid hxe
      rw [← hxe] at hx
      clear hxe
      go_wp2_with (first
        | (go_at_call 102; refine (vec_at_calls _ l k _ (h.below hb)).mono ?_; rintro e w1 ⟨u, rfl, hu, hb1⟩; rw [← HX.out] at hu; have hu' := hu; obtain ⟨A1, c1, A2, c2, rfl⟩ := hu'.slices)
        | (go_at_call 101; refine (frac_Canonical_calls _ x _ (hu.below hb1) (by omega)).mono ?_; rintro e w2 ⟨q, u, HQ, hSq, rfl, hN, hb2⟩; obtain ⟨v5, v6, rfl, ⟨r5, A5, c5, rfl, h5⟩, ⟨r6, A6, c6, rfl, h6⟩⟩ := hN)
        | (at_builtin; refine append_q1 q _ _ _ _ _ _ _ rfl _ _ rfl w.heap.size wr.heap.size (.slice O k oc) r rfl (hO.below (bl_trans hb1 hb2)) rfl ⟨_, _, rfl, ⟨r5, A5, c5, rfl, h5.mono hb1.size⟩, ⟨r6, A6, c6, rfl, h6.mono hb1.size⟩⟩ (fun k e => (hO.lt k e).2) (by omega) (Nat.le_trans hb.size (Nat.le_trans hb1.size hb2.size)) ?_; intro O2 oc2 w3 hO2 hb3))
      go_roundw
      case rel =>
        refine ⟨k + 1, O2, oc2, r ++ [q], by omega, by simp, rfl, by rw [← hl]; exact hO2, by simp [hl], ?_, ?_, hb3 w (Nat.le_refl _) (bl_trans hb (bl_trans hb1 hb2))⟩
        · rw [padR_succ, List.map_append, ← HL.out, HQ.out, HX.out]
          exact Lib.hid rfl
        · intro r hr
          rw [List.mem_append] at hr
          rcases hr with hr | hr
          · exact hR r hr
          · simp at hr; subst hr; omega
      case measure => simp [intOf]; omega
    · obtain rfl : k = m := by omega
      go_wp2
      go_ret
      exact ⟨r, _, HL, hR, rfl, hO, hb⟩
end Go.Proofs.Ytnmmgegnioihmaa
