/- Ranges over a function, for this program: what the blocks that an iterator reads keep; the iterators of package whole. -/
import Derived.RangeFuncNested
import Derived.RangeFuncBound
import Derived.RangeFuncCalls
import Derived.RangeFuncLeaves
import Derived.RangeFuncOne
import Derived.Shelf.Abstract
import Derived.Shelf.RegionOpen
import Derived.OwnWalkIn
import Derived.TacticsInMore
import Derived.LoopNIn
import Derived.LoopIn
import Derived.Maps.AppendAt
import Derived.Laws.EntriesVeiled
import Derived.Test.YtnmmgegnioihmaaWhole2
set_option linter.unusedVariables false
set_option linter.unusedSimpArgs false
namespace Go.Proofs.Ytnmmgegnioihmaa
open Go.RowKit Go.Shelf

attribute [local go_sem] Oper.semAt_some

/-- The blocks S lie us they lay -/
def Kept (S : Nat → Prop) (W W' : World) : Prop := ∀ k, S k → W'.heap[k]? = W.heap[k]?
theorem Kept.refl (S : Nat → Prop) (W : World) : Kept S W W := fun _ _ => rfl
theorem Kept.trans {S : Nat → Prop} {A B C : World} (h : Kept S A B) (k : Kept S B C) : Kept S A C := fun i hi => (k i hi).trans (h i hi)
theorem Kept.cell {S : Nat → Prop} {W W' : World} (h : Kept S W W') {p : Addr} (hp : S p.block) : W'.cell? p = W.cell? p := World.cell?_of_block (w := W) (h _ hp)
theorem Kept.below {S : Nat → Prop} {W W' : World} {B : Nat} (hb : Below B W W') (hS : ∀ k, S k → k < B) : Kept S W W' := fun k hk => hb.block k (hS k hk)
theorem kept_b {S : Nat → Prop} {w : World} (hS : ∀ k, S k → k < w.heap.size) (W : World) (l : Nat) (o o' : Obj) (hl : w.heap.size ≤ l) (_ : W.heap[l]? = some o) (_ : o.isCells = false) (_ : o.isWalk = false) : Kept S W (W.putObj l o') :=
  fun k hk => World.putObj_heap_other (by have := hS k hk; omega)
theorem keepsOthers_of_below {W W' : World} (h : Below W.heap.size W W') : KeepsOthers W W' :=
  ⟨h.size, fun k o hk _ => (h.block k (Array.getElem?_eq_some_iff.1 hk).1).trans hk⟩
/-- two words -/
abbrev Wp := { p : Nat × Nat // p.1 < 4294967296 ∧ p.2 < 4294967296 }
/-- the words of two magnitudes, side by side -/
def sideBy {us vs : List Nat} (ru : Rng us) (rv : Rng vs) (k : Nat) : List Wp := (List.range k).map fun j => ⟨(us.getD j 0, vs.getD j 0), ru.getD j, rv.getD j⟩
theorem sideBy_succ {us vs : List Nat} (ru : Rng us) (rv : Rng vs) (k : Nat) : sideBy ru rv (k + 1) = sideBy ru rv k ++ [⟨(us.getD k 0, vs.getD k 0), ru.getD k, rv.getD k⟩] := by simp [sideBy, List.range_succ]
theorem sideBy_length {us vs : List Nat} (ru : Rng us) (rv : Rng vs) (k : Nat) : (sideBy ru rv k).length = k := by simp [sideBy]
theorem row_at {enc : Nat → Value} {w : World} {A : Option Addr} {c : Nat} {xs : List Nat} (h : Row enc w A c xs) {k : Nat} (hk : k < xs.length) : ∃ b off, A = some ⟨b, off, none⟩ ∧ w.cell? ⟨b, off + k, none⟩ = some (enc (xs.getD k 0)) := by
  obtain ⟨b, off, e, hc⟩ := h.rd (by rintro rfl; simp at hk)
  exact ⟨b, off, e, hc k _ (by rw [List.getD_eq_getElem?_getD, List.getElem?_eq_getElem hk]; rfl)⟩
set_option maxRecDepth 100000 in
set_option maxHeartbeats 2000000 in
/-- whole.pairs' closure, for every loop body that keeps the blocks S, whatever they are us long us the two slices are read from them. -/
theorem pairs1_in (l Ba Bb ca cb : Nat) (A B : Option Addr) (us vs : List Nat) (ru : Rng us) (rv : Rng vs) (S : Nat → Prop) (J Jx : List Wp → World → Prop) (W : World)
    (hread : ∀ W', Kept S W W' → W'.cell? ⟨Ba, 0, none⟩ = some (.slice A us.length ca) ∧ W'.cell? ⟨Bb, 0, none⟩ = some (.slice B vs.length cb) ∧ Row encW W' A ca us ∧ Row encW W' B cb vs)
    (hY : ∀ pre x W1, J pre W1 → pre.length < max us.length vs.length → YieldAt Fence.wide 1 Try.prog l #[.int .u64 (x.1.1 : Int), .int .u64 (x.1.2 : Int)] W1 fun e W' =>
      (e = .returned (.bool true) ∧ J (pre ++ [x]) W' ∧ Kept S W1 W') ∨ (e = .returned (.bool false) ∧ Jx (pre ++ [x]) W')) (h0 : J [] W) :
    CallsIn Fence.wide 2 Try.prog 178 #[.func (.yield l) #[] #[], .pointer (some ⟨Ba, 0, none⟩), .pointer (some ⟨Bb, 0, none⟩)] W fun e W' => (∃ v, e = .returned v) ∧
      ((∃ ys, ys = sideBy ru rv (max us.length vs.length) ∧ J ys W') ∨ (∃ pre, (∃ k, k ≤ max us.length vs.length ∧ pre = sideBy ru rv k) ∧ Jx pre W')) := by
  obtain ⟨c1, c2, hra, hrb⟩ := hread W (Kept.refl _ _)
  have la : us.length ≤ 9223372036854775807 := Nat.le_trans hra.le (by have := hra.mx; unfold maxLen at this; omega)
  have lb : vs.length ≤ 9223372036854775807 := Nat.le_trans hrb.le (by have := hrb.mx; unfold maxLen at this; omega)
  clear hra hrb
  refine callsIn_of_wp Try.func178 rfl trivial ?_ rfl
  simp only [Try.ntmps178, List.size_toArray, List.length_cons, List.length_nil, Nat.reduceAdd, Nat.reduceSub, Array.replicate_succ, Array.replicate_zero, List.push_toArray, List.append_toArray, List.nil_append, List.cons_append]
  gi_wp2
  all_goals
    gi_loopw [12] (fun i wr => ∃ k : Nat, k ≤ max us.length vs.length ∧ i = .int .i64 k ∧ J (sideBy ru rv k) wr ∧ Kept S W wr) (fun i _ => max us.length vs.length - (intOf i).toNat)
    case atStart => exact ⟨0, Nat.zero_le _, rfl, h0, Kept.refl _ _⟩
    case round =>
      obtain ⟨k, hk, rfl, hJs, hnx⟩ := hrel
      obtain ⟨d1, d2, hra, hrb⟩ := hread wr hnx
      clear c1 c2
      by_cases hlt : k < max us.length vs.length
      · have gu := ru.getD k
        have gv := rv.getD k
        have hca : k < us.length → ∃ ba oa, A = some ⟨ba, oa, none⟩ ∧ wr.cell? ⟨ba, oa + k, none⟩ = some (.int .u32 ((us.getD k 0 : Nat) : Int)) := fun h => row_at hra h
        have hcb : k < vs.length → ∃ bb ob, B = some ⟨bb, ob, none⟩ ∧ wr.cell? ⟨bb, ob + k, none⟩ = some (.int .u32 ((vs.getD k 0 : Nat) : Int)) := fun h => row_at hrb h
        have eu : ¬ k < us.length → us.getD k 0 = 0 := fun h => by rw [List.getD_eq_getElem?_getD, List.getElem?_eq_none (by omega)]; rfl
        have ev : ¬ k < vs.length → vs.getD k 0 = 0 := fun h => by rw [List.getD_eq_getElem?_getD, List.getElem?_eq_none (by omega)]; rfl
        obtain ⟨x, hx⟩ : ∃ x, x = us.getD k 0 := ⟨_, rfl⟩
        obtain ⟨y, hy0⟩ : ∃ y, y = vs.getD k 0 := ⟨_, rfl⟩
        have HZ : ∀ h, sideBy ru rv (k + 1) = sideBy ru rv k ++ [⟨(x, y), h⟩] := fun h => by subst hx; subst hy0; exact sideBy_succ ru rv k
        have HX := Lib.hid HZ
        clear HZ
        rw [← hx] at gu hca eu
        rw [← hy0] at gv hcb ev
        clear hx hy0 hra hrb
        obtain ⟨fn, tmps, assign, body, hy, hR⟩ := hY _ ⟨(x, y), gu, gv⟩ wr hJs (by rw [sideBy_length]; exact hlt)
        by_cases hka : k < us.length <;> by_cases hkb : k < vs.length
        · first
            | (exfalso; omega)
            | (obtain ⟨ba, oa, rfl, hca⟩ := hca hka
               obtain ⟨bb, ob, rfl, hcb⟩ := hcb hkb
               clear eu ev
               gi_wp2
               refine hR.mono ?_
               rintro e W3 (⟨rfl, hJ3, hk3⟩ | ⟨rfl, hJx3⟩)
               · gi_wp2
                 go_roundw
                 case rel => exact ⟨k + 1, by omega, by simp, by rw [HX.out]; exact hJ3, hnx.trans hk3⟩
                 case measure => simp [intOf]; omega
               · gi_wp2
                 refine bodyPost_ret (results_none rfl _ _ _) rfl ?_
                 exact ⟨⟨_, rfl⟩, .inr ⟨_, ⟨k + 1, by omega, rfl⟩, by rw [HX.out]; exact hJx3⟩⟩)
        · first
            | (exfalso; omega)
            | (obtain ⟨ba, oa, rfl, hca⟩ := hca hka
               obtain rfl := ev hkb
               simp only [Int.ofNat_zero] at hy
               clear eu ev hcb
               gi_wp2
               refine hR.mono ?_
               rintro e W3 (⟨rfl, hJ3, hk3⟩ | ⟨rfl, hJx3⟩)
               · gi_wp2
                 go_roundw
                 case rel => exact ⟨k + 1, by omega, by simp, by rw [HX.out]; exact hJ3, hnx.trans hk3⟩
                 case measure => simp [intOf]; omega
               · gi_wp2
                 refine bodyPost_ret (results_none rfl _ _ _) rfl ?_
                 exact ⟨⟨_, rfl⟩, .inr ⟨_, ⟨k + 1, by omega, rfl⟩, by rw [HX.out]; exact hJx3⟩⟩)
        · first
            | (exfalso; omega)
            | (obtain ⟨bb, ob, rfl, hcb⟩ := hcb hkb
               obtain rfl := eu hka
               simp only [Int.ofNat_zero] at hy
               clear eu ev hca
               gi_wp2
               refine hR.mono ?_
               rintro e W3 (⟨rfl, hJ3, hk3⟩ | ⟨rfl, hJx3⟩)
               · gi_wp2
                 go_roundw
                 case rel => exact ⟨k + 1, by omega, by simp, by rw [HX.out]; exact hJ3, hnx.trans hk3⟩
                 case measure => simp [intOf]; omega
               · gi_wp2
                 refine bodyPost_ret (results_none rfl _ _ _) rfl ?_
                 exact ⟨⟨_, rfl⟩, .inr ⟨_, ⟨k + 1, by omega, rfl⟩, by rw [HX.out]; exact hJx3⟩⟩)
        · omega
      · obtain rfl : k = max us.length vs.length := by omega
        gi_wp2
        go_end0
        exact ⟨⟨_, rfl⟩, .inl ⟨_, rfl, hJs⟩⟩

/-- whole.pairs(a, b), the two slices in boxes Ba and Bb, as an iterator -/
theorem pairs_stops (Ba Bb ca cb : Nat) (A B : Option Addr) (us vs : List Nat) (ru : Rng us) (rv : Rng vs) (S : Nat → Prop) (w0 : World) (hS : ∀ k, S k → k < w0.heap.size)
    (hread : ∀ W', Kept S w0 W' → W'.cell? ⟨Ba, 0, none⟩ = some (.slice A us.length ca) ∧ W'.cell? ⟨Bb, 0, none⟩ = some (.slice B vs.length cb) ∧ Row encW W' A ca us ∧ Row encW W' B cb vs) :
    SeqStopsK Fence.wide 2 Try.prog 178 #[.pointer (some ⟨Ba, 0, none⟩), .pointer (some ⟨Bb, 0, none⟩)] (fun x : Wp => #[.int .u64 (x.1.1 : Int), .int .u64 (x.1.2 : Int)]) (Kept S)
      (fun xs => xs = sideBy ru rv (max us.length vs.length)) (fun pre => ∃ k, k ≤ max us.length vs.length ∧ pre = sideBy ru rv k) (max us.length vs.length) w0 := fun l J Jx W hW _ _ hY h0 =>
  pairs1_in l Ba Bb ca cb A B us vs ru rv S J Jx W (fun W' h => hread W' ((Kept.below hW hS).trans h)) hY h0
end Go.Proofs.Ytnmmgegnioihmaa
