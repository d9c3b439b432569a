/- The laws' own helpers: At of the reference, at and long of layer 36. -/
import Derived.Test.YtnmmgegnioihmaaVecQ
import Derived.Test.YtnmmgegnioihmaaFracA
import Derived.Test.YtnmmgegnioihmaaSettA
set_option linter.unusedVariables false
set_option linter.unusedSimpArgs false
namespace Go.Proofs.Ytnmmgegnioihmaa
open Go.RowKit

set_option maxHeartbeats 1000000 in
theorem refAt_calls (v : Value) (l : List Qr) (k : Nat) (w : World) (h : IsR w v l) :
    Calls Try.prog 36 #[v, .int .i64 (k : Int)] w fun e w' => ∃ u, e = .returned u ∧ IsQ w u (l.getD k zeroQ) ∧ Below w.heap.size w w' := by
  obtain ⟨A, c, rfl, hr⟩ := h
  have hk0 : ¬ ((k : Int) < 0) := by omega
  by_cases hlt : k < l.length
  · obtain ⟨b, off, A1, c1, A2, c2, rfl, y0, y1, y2, y3, hq⟩ := hr.at hlt
    generalize l.getD k zeroQ = q at *
    have Y0 := fun o => bl_cell (bl_alloc w o) y0
    have Y1 := fun o => bl_cell (bl_alloc w o) y1
    have Y2 := fun o => bl_cell (bl_alloc w o) y2
    have Y3 := fun o => bl_cell (bl_alloc w o) y3
    have hb : b < w.heap.size := World.block_lt_of_cell? w _ y0
    have hne : ¬ b = w.heap.size := by omega
    go_enter Try.func36, Try.ntmps36
    go_wp2
    exact bodyPost_ret (v := .agg #[.bool q.n.neg, .slice A1 q.n.ws.length c1, .bool q.d.neg, .slice A2 q.d.ws.length c2]) (by simp [results, Try.results36, go_sem]) rfl ⟨_, rfl, hq, bl_alloc _ _⟩
  · have he : l.getD k zeroQ = zeroQ := by rw [List.getD_eq_getElem?_getD, List.getElem?_eq_none (by omega)]; rfl
    rw [he]
    go_enter Try.func36, Try.ntmps36
    go_wp2
    exact bodyPost_ret (v := .agg #[.bool false, .slice none 0 0, .bool false, .slice none 0 0]) (by simp [results, Try.results36, go_sem]) rfl ⟨_, rfl, isZero w, bl_alloc _ _⟩
/-- a slice of markets -/
structure SRow (w : World) (A : Option Addr) (c : Nat) (ss : List (List Qr × List Qr × List Qr)) : Prop where
  le : ss.length ≤ c
  mx : c ≤ maxLen
  rd : ss ≠ [] → ∃ b off, A = some ⟨b, off, none⟩ ∧ ∀ (j : Nat) s, ss[j]? = some s → ∃ B1 d1 B2 d2 B3 d3, w.cell? ⟨b, off + j * 3, none⟩ = some (.slice B1 s.1.length d1) ∧ w.cell? ⟨b, off + j * 3 + 1, none⟩ = some (.slice B2 s.2.1.length d2) ∧
    w.cell? ⟨b, off + j * 3 + 2, none⟩ = some (.slice B3 s.2.2.length d3) ∧ QRow w B1 d1 s.1 ∧ QRow w B2 d2 s.2.1 ∧ QRow w B3 d3 s.2.2
theorem litL3 (X : World) (T : TypeId) (B1 B2 B3 : Option Addr) (d1 d2 d3 m1 m2 m3 n : Nat) (l1 l2 l3 : List Qr) (h1 : QRow X B1 d1 l1) (h2 : QRow X B2 d2 l2) (h3 : QRow X B3 d3 l3) (hn : n = X.heap.size) (e1 : m1 = l1.length) (e2 : m2 = l2.length) (e3 : m3 = l3.length) :
    LRow (X.alloc (.cells #[.slice B1 m1 d1, .slice B2 m2 d2, .slice B3 m3 d3] T)) (some ⟨n, 0, none⟩) 3 [l1, l2, l3] := by
  subst hn; subst e1; subst e2; subst e3
  refine ⟨by simp, by unfold maxLen; omega, (fun e => by cases e), fun _ => ⟨X.heap.size, 0, rfl, fun j r hj => ?_⟩⟩
  match j, hj with
  | 0, hj =>
    simp at hj; subst hj
    exact ⟨B1, d1, by rw [cell_of_row _ _ _ _ _ _ (heap_alloc_new X _)]; rfl, h1.below (bl_alloc _ _)⟩
  | 1, hj =>
    simp at hj; subst hj
    exact ⟨B2, d2, by rw [cell_of_row _ _ _ _ _ _ (heap_alloc_new X _)]; rfl, h2.below (bl_alloc _ _)⟩
  | 2, hj =>
    simp at hj; subst hj
    exact ⟨B3, d3, by rw [cell_of_row _ _ _ _ _ _ (heap_alloc_new X _)]; rfl, h3.below (bl_alloc _ _)⟩
theorem Long3 (X : World) (T : TypeId) (B1 B2 B3 : Option Addr) (d1 d2 d3 n : Nat) (l1 l2 l3 : List Qr) (h1 : QRow X B1 d1 l1) (h2 : QRow X B2 d2 l2) (h3 : QRow X B3 d3 l3) (hn : n = X.heap.size) :
    Calls Try.prog 32 #[.slice (some ⟨n, 0, none⟩) 3 3] (X.alloc (.cells #[.slice B1 l1.length d1, .slice B2 l2.length d2, .slice B3 l3.length d3] T)) fun e w' => ∃ b, e = .returned (.bool b) ∧ Below X.heap.size X w' := by
  have r := litL3 X T B1 B2 B3 d1 d2 d3 _ _ _ n l1 l2 l3 h1 h2 h3 hn rfl rfl rfl
  refine (Long_calls _ 3 _ _ r (by simp)).mono ?_
  rintro e w' ⟨b, he, _, hb⟩
  exact ⟨b, he, bl_trans (bl_alloc _ _) hb⟩
theorem Long3d (X : World) (T : TypeId) (B1 B2 B3 : Option Addr) (d1 d2 d3 n : Nat) (l1 l2 l3 : List Qr) (h1 : QRow X B1 d1 l1) (h2 : QRow X B2 d2 l2) (h3 : QRow X B3 d3 l3) (hn : n = X.heap.size) :
    Calls Try.prog 32 #[.slice (some ⟨n, 0, none⟩) 3 3] (X.alloc (.cells #[.slice B1 l1.length d1, .slice B2 l2.length d2, .slice B3 l3.length d3] T)).drew fun e w' => ∃ b, e = .returned (.bool b) ∧ Below X.heap.size X w' := by
  have r := (litL3 X T B1 B2 B3 d1 d2 d3 _ _ _ n l1 l2 l3 h1 h2 h3 hn rfl rfl rfl).below (Below.refl _ _).drew
  refine (Long_calls _ 3 _ _ r (by simp)).mono ?_
  rintro e w' ⟨b, he, _, hb⟩
  exact ⟨b, he, bl_trans (bl_alloc _ _).drew hb⟩
set_option maxHeartbeats 4000000 in
theorem long36_calls (A : Option Addr) (c : Nat) (ss : List (List Qr × List Qr × List Qr)) (w : World) (h : SRow w A c ss) (hlen : ss.length ≤ 1099511627776) :
    Calls Try.prog 25 #[.slice A ss.length c] w fun e w' => ∃ b, e = .returned (.bool b) ∧ Below w.heap.size w w' := by
  go_enter Try.func25, Try.ntmps25
  go_wp2
  go_loopw [3] (fun i wr => ∃ k : Nat, k ≤ ss.length ∧ i = .int .i64 k ∧ Below w.heap.size w wr) (fun i _ => ss.length - (intOf i).toNat)
  case atStart => exact ⟨0, Nat.zero_le _, rfl, Below.refl _ _⟩
  case round =>
    obtain ⟨k, hk, rfl, hb⟩ := hrel
    by_cases hlt : k < ss.length
    · obtain ⟨b, off, rfl, hc⟩ := h.rd (by rintro rfl; simp at hlt)
      obtain ⟨B1, d1, B2, d2, B3, d3, y1, y2, y3, r1, r2, r3⟩ := hc k _ (List.getElem?_eq_getElem hlt)
      generalize ss[k] = s at *
      have f0 : Fr wr wr (fun _ => False) wr := Fr.start (Below.refl _ _)
      have E1 : ∀ W, Fr wr wr (fun _ => False) W → W.cell? ⟨b, off + k * 3, none⟩ = some (.slice B1 s.1.length d1) ∧ W.cell? ⟨b, off + k * 3 + 1, none⟩ = some (.slice B2 s.2.1.length d2) ∧ W.cell? ⟨b, off + k * 3 + 2, none⟩ = some (.slice B3 s.2.2.length d3) :=
        fun W hW => ⟨bl_cell (hb.trans (hW.b.mono hb.size)) y1, bl_cell (hb.trans (hW.b.mono hb.size)) y2, bl_cell (hb.trans (hW.b.mono hb.size)) y3⟩
      go_wp2
      go_region_held3 (fun W => Fr wr wr (fun _ => False) W) (with_reducible (first | assumption | exact Fr.drew (by assumption) | exact Fr.call (by assumption) (by assumption) | exact Fr.call (by assumption) (bl_alloc _ _))) (first
        | (go_at_call 32; (with_reducible refine (Long3d _ _ _ _ _ _ _ _ _ s.1 s.2.1 s.2.2 (r1.below hb) (r2.below hb) (r3.below hb) rfl).mono ?_); rintro e w1 ⟨b1, rfl, hb1⟩; have f1 : Fr wr wr (fun _ => False) w1 := Fr.call f0 hb1))
      cases b1
      all_goals go_wp2
      · go_roundw
        case rel => exact ⟨k + 1, by omega, by simp, bl_trans hb f1.b⟩
        case measure => simp [intOf]; omega
      · go_ret
        exact ⟨true, rfl, bl_trans hb f1.b⟩
    · obtain rfl : k = ss.length := by omega
      go_wp2
      go_ret
      exact ⟨false, rfl, hb⟩
theorem wrapU (x : Int) : IntKind.u64.wrap x = ((x % 18446744073709551616).toNat : Int) := by
  simp only [IntKind.wrap]; simp [IntKind.bits, IntKind.signed]; omega
theorem mod_at (x : Int) {n : Nat} (hn : 0 < n) (hn2 : n ≤ 1099511627776) : 0 ≤ wrap64 ((IntKind.u64.wrap x).tmod n) ∧ wrap64 ((IntKind.u64.wrap x).tmod n) < n := by
  rw [wrapU]
  generalize (x % 18446744073709551616).toNat = m
  have e : ((m : Int).tmod n) = ((m % n : Nat) : Int) := by rw [Int.tmod_eq_emod_of_nonneg (by omega)]; simp
  rw [e]
  have h := Nat.mod_lt m hn
  generalize m % n = r at *
  unfold wrap64
  omega
theorem und_ints : Try.prog.underlying 22 = some (.slice 3) := Try.underlying22
theorem info_int : (Try.prog.info? 3).map (fun i => (i.zero, i.size, i.bytes)) = some (some (.int .i64 0), 1, 8) := by kernel_rfl
set_option maxHeartbeats 4000000 in
theorem at36_calls (A : Option Addr) (c : Nat) (xs : List Int) (n : Nat) (w : World) (h : Row enc64 w A c xs) (hx : ∀ x ∈ xs, -9223372036854775808 ≤ x ∧ x ≤ 9223372036854775807) (hn : 0 < n) (hn2 : n ≤ 1099511627776) (hlen : xs.length ≤ 1099511627776) :
    Calls Try.prog 33 #[.slice A xs.length c, .int .i64 (n : Int)] w fun e w' => ∃ (ys : List Int) (B : Option Addr) (d : Nat), e = .returned (.slice B ys.length d) ∧ ys.length = xs.length ∧ (∀ y ∈ ys, 0 ≤ y ∧ y < n) ∧ Row enc64 w' B d ys ∧ Below w.heap.size w w' := by
  obtain ⟨i0, hi, hz0, hz1, hz2⟩ := info_parts info_int
  have HL := Lib.hid hlen
  go_enter Try.func33, Try.ntmps33
  go_wp2
  go_loopw [5, 6] (fun o i wr => ∃ (k : Nat) (O : Option Addr) (oc : Nat) (ys : List Int), k ≤ xs.length ∧ i = .int .i64 k ∧ o = .slice O k oc ∧ ys.length = k ∧ wr.ownsRow w.heap.size 3 1 (.slice O k oc) k (ys.map enc64) ∧ Hid (∀ y ∈ ys, 0 ≤ y ∧ y < n) ∧ Below w.heap.size w wr) (fun _ i _ => xs.length - (intOf i).toNat)
  case atStart => exact ⟨0, none, 0, [], Nat.zero_le _, rfl, rfl, rfl, World.ownsRow_nil _ _ _ _, Lib.hid (fun y hy => by cases hy), Below.refl _ _⟩
  case round =>
    obtain ⟨k, O, oc, ys, hk, rfl, rfl, hyl, hown, HY, hb⟩ := hrel
    by_cases hlt : k < xs.length
    · obtain ⟨b, off, rfl, hc⟩ := row64_at (h.below hb) hlt
      obtain ⟨x, hxe⟩ : ∃ x, x = xs.getD k 0 := ⟨_, rfl⟩
      rw [← hxe] at hc
      clear hxe
      have hyr := mod_at x hn hn2
      go_wp2_with (at_builtin; generalize wrap64 _ = y at hyr ⊢; refine wpList_append_own _ rfl _ _ 22 rfl w.heap.size 3 i0 (.int .i64 0) 1 8 und_ints hi hz0 hz1 hz2 rfl (by decide) (.slice O k oc) k (ys.map enc64) rfl (hown.alloc _) ⟨wr.heap.size, 0, none⟩ 1 1 [.int .i64 y] rfl rfl (cell_one_new _ _ _) (by simp [Value.oneCell']) (by have := HL.out; unfold maxLen; omega) (by have := HL.out; omega) (Nat.le_trans hb.size (by simp)) ?_; intro vo' w1 hown1 hg1 _; obtain ⟨g', cap', rfl⟩ := ownsRow_succ hown1)
      go_roundw
      case rel =>
        refine ⟨k + 1, _, _, ys ++ [y], by omega, by simp, rfl, by simp [hyl], by simpa [enc64] using hown1, Lib.hid fun z hz => ?_, grown_below (hb.trans ((bl_alloc wr _).mono hb.size)) hg1 (Nat.le_trans hb.size (by simp)) (fun j e => (hown.lt j e).1)⟩
        rcases List.mem_append.1 hz with h1 | h1
        · exact HY.out z h1
        · simp at h1; subst h1; exact hyr
      case measure => simp [intOf]; omega
    · obtain rfl : k = xs.length := by omega
      go_wp2
      go_ret
      obtain ⟨B, d, e, hl, hN⟩ := NRow.of_own hown
      injection e with e1 e2 e3
      subst e1; subst e3
      exact ⟨ys, _, _, by rw [hyl]; rfl, hyl, HY.out, hN.toRow, hb⟩
end Go.Proofs.Ytnmmgegnioihmaa
