/- Ranges over a function, for this program: what the blocks that an iterator reads keep; the iterators of package whole. -/
import Derived.RangeFuncNested
import Derived.RangeFuncBound
import Derived.RangeFuncCalls
import Derived.RangeFuncLeaves
import Derived.RangeFuncOne
import Derived.Shelf.Abstract
import Derived.Shelf.RegionOpen
import Derived.OwnWalkIn
import Derived.TacticsInMore
import Derived.LoopNIn
import Derived.LoopIn
import Derived.Maps.AppendAt
import Derived.Laws.EntriesVeiled
import Derived.Test.YtnmmgegnioihmaaWholeA
import Derived.Test.YtnmmgegnioihmaaPlainA
import Derived.RegionTactic
import Derived.ChangeAlike
set_option linter.unusedVariables false
set_option linter.unusedSimpArgs false
namespace Go.Proofs.Ytnmmgegnioihmaa
open Go.RowKit Go.Shelf

attribute [local go_sem] Oper.semAt_some

/-- The blocks S lie us they lay -/
def Kept (S : Nat → Prop) (W W' : World) : Prop := ∀ k, S k → W'.heap[k]? = W.heap[k]?
theorem Kept.refl (S : Nat → Prop) (W : World) : Kept S W W := fun _ _ => rfl
theorem Kept.trans {S : Nat → Prop} {A B C : World} (h : Kept S A B) (k : Kept S B C) : Kept S A C := fun i hi => (k i hi).trans (h i hi)
theorem Kept.cell {S : Nat → Prop} {W W' : World} (h : Kept S W W') {p : Addr} (hp : S p.block) : W'.cell? p = W.cell? p := World.cell?_of_block (w := W) (h _ hp)
theorem Kept.below {S : Nat → Prop} {W W' : World} {B : Nat} (hb : Below B W W') (hS : ∀ k, S k → k < B) : Kept S W W' := fun k hk => hb.block k (hS k hk)
theorem kept_b {S : Nat → Prop} {w : World} (hS : ∀ k, S k → k < w.heap.size) (W : World) (l : Nat) (o o' : Obj) (hl : w.heap.size ≤ l) (_ : W.heap[l]? = some o) (_ : o.isCells = false) (_ : o.isWalk = false) : Kept S W (W.putObj l o') :=
  fun k hk => World.putObj_heap_other (by have := hS k hk; omega)
theorem keepsOthers_of_below {W W' : World} (h : Below W.heap.size W W') : KeepsOthers W W' :=
  ⟨h.size, fun k o hk _ => (h.block k (Array.getElem?_eq_some_iff.1 hk).1).trans hk⟩
/-- two words -/
abbrev Wp := { p : Nat × Nat // p.1 < 4294967296 ∧ p.2 < 4294967296 }
/-- the words of two magnitudes, side by side -/
def sideBy {us vs : List Nat} (ru : Rng us) (rv : Rng vs) (k : Nat) : List Wp := (List.range k).map fun j => ⟨(us.getD j 0, vs.getD j 0), ru.getD j, rv.getD j⟩
theorem sideBy_succ {us vs : List Nat} (ru : Rng us) (rv : Rng vs) (k : Nat) : sideBy ru rv (k + 1) = sideBy ru rv k ++ [⟨(us.getD k 0, vs.getD k 0), ru.getD k, rv.getD k⟩] := by simp [sideBy, List.range_succ]
theorem sideBy_length {us vs : List Nat} (ru : Rng us) (rv : Rng vs) (k : Nat) : (sideBy ru rv k).length = k := by simp [sideBy]
theorem row_at {enc : Nat → Value} {w : World} {A : Option Addr} {c : Nat} {xs : List Nat} (h : Row enc w A c xs) {k : Nat} (hk : k < xs.length) : ∃ b off, A = some ⟨b, off, none⟩ ∧ w.cell? ⟨b, off + k, none⟩ = some (enc (xs.getD k 0)) := by
  obtain ⟨b, off, e, hc⟩ := h.rd (by rintro rfl; simp at hk)
  exact ⟨b, off, e, hc k _ (by rw [List.getD_eq_getElem?_getD, List.getElem?_eq_getElem hk]; rfl)⟩
set_option maxRecDepth 100000 in
set_option maxHeartbeats 2000000 in
/-- whole.pairs' closure, for every loop body that keeps the blocks S, whatever they are us long us the two slices are read from them. -/
theorem pairs1_in (l Ba Bb ca cb : Nat) (A B : Option Addr) (us vs : List Nat) (ru : Rng us) (rv : Rng vs) (S : Nat → Prop) (J Jx : List Wp → World → Prop) (W : World)
    (hread : ∀ W', Kept S W W' → W'.cell? ⟨Ba, 0, none⟩ = some (.slice A us.length ca) ∧ W'.cell? ⟨Bb, 0, none⟩ = some (.slice B vs.length cb) ∧ Row encW W' A ca us ∧ Row encW W' B cb vs)
    (hY : ∀ pre x W1, J pre W1 → pre.length < max us.length vs.length → YieldAt Fence.wide 1 Try.prog l #[.int .u64 (x.1.1 : Int), .int .u64 (x.1.2 : Int)] W1 fun e W' =>
      (e = .returned (.bool true) ∧ J (pre ++ [x]) W' ∧ Kept S W1 W') ∨ (e = .returned (.bool false) ∧ Jx (pre ++ [x]) W')) (h0 : J [] W) :
    CallsIn Fence.wide 2 Try.prog 179 #[.func (.yield l) #[] #[], .pointer (some ⟨Ba, 0, none⟩), .pointer (some ⟨Bb, 0, none⟩)] W fun e W' => (∃ v, e = .returned v) ∧
      ((∃ ys, ys = sideBy ru rv (max us.length vs.length) ∧ J ys W') ∨ (∃ pre, (∃ k, k ≤ max us.length vs.length ∧ pre = sideBy ru rv k) ∧ Jx pre W')) := by
  obtain ⟨c1, c2, hra, hrb⟩ := hread W (Kept.refl _ _)
  have la : us.length ≤ 9223372036854775807 := Nat.le_trans hra.le (by have := hra.mx; unfold maxLen at this; omega)
  have lb : vs.length ≤ 9223372036854775807 := Nat.le_trans hrb.le (by have := hrb.mx; unfold maxLen at this; omega)
  clear hra hrb
  refine callsIn_of_wp Try.func179 rfl trivial ?_ rfl
  simp only [Try.ntmps179, List.size_toArray, List.length_cons, List.length_nil, Nat.reduceAdd, Nat.reduceSub, Array.replicate_succ, Array.replicate_zero, List.push_toArray, List.append_toArray, List.nil_append, List.cons_append]
  gi_wp2
  all_goals
    gi_loopw [12] (fun i wr => ∃ k : Nat, k ≤ max us.length vs.length ∧ i = .int .i64 k ∧ J (sideBy ru rv k) wr ∧ Kept S W wr) (fun i _ => max us.length vs.length - (intOf i).toNat)
    case atStart => exact ⟨0, Nat.zero_le _, rfl, h0, Kept.refl _ _⟩
    case round =>
      obtain ⟨k, hk, rfl, hJs, hnx⟩ := hrel
      obtain ⟨d1, d2, hra, hrb⟩ := hread wr hnx
      clear c1 c2
      by_cases hlt : k < max us.length vs.length
      · have gu := ru.getD k
        have gv := rv.getD k
        have hca : k < us.length → ∃ ba oa, A = some ⟨ba, oa, none⟩ ∧ wr.cell? ⟨ba, oa + k, none⟩ = some (.int .u32 ((us.getD k 0 : Nat) : Int)) := fun h => row_at hra h
        have hcb : k < vs.length → ∃ bb ob, B = some ⟨bb, ob, none⟩ ∧ wr.cell? ⟨bb, ob + k, none⟩ = some (.int .u32 ((vs.getD k 0 : Nat) : Int)) := fun h => row_at hrb h
        have eu : ¬ k < us.length → us.getD k 0 = 0 := fun h => by rw [List.getD_eq_getElem?_getD, List.getElem?_eq_none (by omega)]; rfl
        have ev : ¬ k < vs.length → vs.getD k 0 = 0 := fun h => by rw [List.getD_eq_getElem?_getD, List.getElem?_eq_none (by omega)]; rfl
        obtain ⟨x, hx⟩ : ∃ x, x = us.getD k 0 := ⟨_, rfl⟩
        obtain ⟨y, hy0⟩ : ∃ y, y = vs.getD k 0 := ⟨_, rfl⟩
        have HZ : ∀ h, sideBy ru rv (k + 1) = sideBy ru rv k ++ [⟨(x, y), h⟩] := fun h => by subst hx; subst hy0; exact sideBy_succ ru rv k
        have HX := Lib.hid HZ
        clear HZ
        rw [← hx] at gu hca eu
        rw [← hy0] at gv hcb ev
        clear hx hy0 hra hrb
        obtain ⟨fn, tmps, assign, body, hy, hR⟩ := hY _ ⟨(x, y), gu, gv⟩ wr hJs (by rw [sideBy_length]; exact hlt)
        by_cases hka : k < us.length <;> by_cases hkb : k < vs.length
        · first
            | (exfalso; omega)
            | (obtain ⟨ba, oa, rfl, hca⟩ := hca hka
               obtain ⟨bb, ob, rfl, hcb⟩ := hcb hkb
               clear eu ev
               gi_wp2
               refine hR.mono ?_
               rintro e W3 (⟨rfl, hJ3, hk3⟩ | ⟨rfl, hJx3⟩)
               · gi_wp2
                 go_roundw
                 case rel => exact ⟨k + 1, by omega, by simp, by rw [HX.out]; exact hJ3, hnx.trans hk3⟩
                 case measure => simp [intOf]; omega
               · gi_wp2
                 refine bodyPost_ret (results_none rfl _ _ _) rfl ?_
                 exact ⟨⟨_, rfl⟩, .inr ⟨_, ⟨k + 1, by omega, rfl⟩, by rw [HX.out]; exact hJx3⟩⟩)
        · first
            | (exfalso; omega)
            | (obtain ⟨ba, oa, rfl, hca⟩ := hca hka
               obtain rfl := ev hkb
               simp only [Int.ofNat_zero] at hy
               clear eu ev hcb
               gi_wp2
               refine hR.mono ?_
               rintro e W3 (⟨rfl, hJ3, hk3⟩ | ⟨rfl, hJx3⟩)
               · gi_wp2
                 go_roundw
                 case rel => exact ⟨k + 1, by omega, by simp, by rw [HX.out]; exact hJ3, hnx.trans hk3⟩
                 case measure => simp [intOf]; omega
               · gi_wp2
                 refine bodyPost_ret (results_none rfl _ _ _) rfl ?_
                 exact ⟨⟨_, rfl⟩, .inr ⟨_, ⟨k + 1, by omega, rfl⟩, by rw [HX.out]; exact hJx3⟩⟩)
        · first
            | (exfalso; omega)
            | (obtain ⟨bb, ob, rfl, hcb⟩ := hcb hkb
               obtain rfl := eu hka
               simp only [Int.ofNat_zero] at hy
               clear eu ev hca
               gi_wp2
               refine hR.mono ?_
               rintro e W3 (⟨rfl, hJ3, hk3⟩ | ⟨rfl, hJx3⟩)
               · gi_wp2
                 go_roundw
                 case rel => exact ⟨k + 1, by omega, by simp, by rw [HX.out]; exact hJ3, hnx.trans hk3⟩
                 case measure => simp [intOf]; omega
               · gi_wp2
                 refine bodyPost_ret (results_none rfl _ _ _) rfl ?_
                 exact ⟨⟨_, rfl⟩, .inr ⟨_, ⟨k + 1, by omega, rfl⟩, by rw [HX.out]; exact hJx3⟩⟩)
        · omega
      · obtain rfl : k = max us.length vs.length := by omega
        gi_wp2
        go_end0
        exact ⟨⟨_, rfl⟩, .inl ⟨_, rfl, hJs⟩⟩

/-- whole.pairs(a, b), the two slices in boxes Ba and Bb, as an iterator -/
theorem pairs_stops (Ba Bb ca cb : Nat) (A B : Option Addr) (us vs : List Nat) (ru : Rng us) (rv : Rng vs) (S : Nat → Prop) (w0 : World) (hS : ∀ k, S k → k < w0.heap.size)
    (hread : ∀ W', Kept S w0 W' → W'.cell? ⟨Ba, 0, none⟩ = some (.slice A us.length ca) ∧ W'.cell? ⟨Bb, 0, none⟩ = some (.slice B vs.length cb) ∧ Row encW W' A ca us ∧ Row encW W' B cb vs) :
    SeqStopsK Fence.wide 2 Try.prog 179 #[.pointer (some ⟨Ba, 0, none⟩), .pointer (some ⟨Bb, 0, none⟩)] (fun x : Wp => #[.int .u64 (x.1.1 : Int), .int .u64 (x.1.2 : Int)]) (Kept S)
      (fun xs => xs = sideBy ru rv (max us.length vs.length)) (fun pre => ∃ k, k ≤ max us.length vs.length ∧ pre = sideBy ru rv k) (max us.length vs.length) w0 := fun l J Jx W hW _ _ hY h0 =>
  pairs1_in l Ba Bb ca cb A B us vs ru rv S J Jx W (fun W' h => hread W' ((Kept.below hW hS).trans h)) hY h0
end Go.Proofs.Ytnmmgegnioihmaa
namespace Go.Proofs.Ytnmmgegnioihmaa
open Go.RowKit Go.Shelf

attribute [local go_sem] Oper.semAt_some

theorem und_words : Try.prog.underlying 39 = some (.slice 101) := Try.underlying39
set_option maxHeartbeats 400000 in
theorem pairs_calls (va vb : Value) (w : World) (A B : Option Addr) (la ca lb cb : Nat) :
    Calls Try.prog 169 #[.slice A la ca, .slice B lb cb] w fun e w' => e = .returned (.func (.func 179) #[] #[.pointer (some ⟨w.heap.size, 0, none⟩), .pointer (some ⟨w.heap.size + 1, 0, none⟩)]) ∧
      w' = (w.alloc (.cells #[.slice A la ca] 39)).alloc (.cells #[.slice B lb cb] 39) := by
  have hmf : ∀ (fn : Fn) (first cap : Array Value) (w : World), (Instr.makeFunc fn first cap).run Try.prog w = .ok (.func fn first cap) w := fun _ _ _ _ => rfl
  go_enter Try.func169, Try.ntmps169
  go_wp2
  go_ret
  exact ⟨rfl, rfl⟩
set_option maxHeartbeats 400000 in
theorem carrier_calls (w : World) :
    Calls Try.prog 168 #[] w fun e w' => e = .returned (.tuple #[.func (.func 177) #[] #[.pointer (some ⟨w.heap.size + 1, 0, none⟩), .pointer (some ⟨w.heap.size, 0, none⟩)],
        .func (.func 178) #[] #[.pointer (some ⟨w.heap.size, 0, none⟩), .pointer (some ⟨w.heap.size + 1, 0, none⟩)]]) ∧
      w' = (w.alloc (.cells #[.slice none 0 0] 39)).alloc (.cells #[.int .u64 0] 132) := by
  have hmf : ∀ (fn : Fn) (first cap : Array Value) (w : World), (Instr.makeFunc fn first cap).run Try.prog w = .ok (.func fn first cap) w := fun _ _ _ _ => rfl
  go_enter Try.func168, Try.ntmps168
  go_wp2
  go_ret2
  exact ⟨rfl, rfl⟩
/-- what put leaves: the boxes of the carry (Bc) and of the words (Bo); all else that lay, but the words' own row, as it lay -/
structure Put (n0 Bc Bo : Nat) (vo : Value) (n : Nat) (ws : List Nat) (c : Nat) (W W' : World) : Prop where
  carry : Boxed W' Bc 132 (.int .u64 (c : Int))
  out : ∃ vo', Boxed W' Bo 39 vo' ∧ W'.ownsRow n0 101 1 vo' n (ws.map encW)
  size : W.heap.size ≤ W'.heap.size
  rest : ∀ k, k < W.heap.size → k ≠ Bc → k ≠ Bo → some k ≠ vo.ownBlock → W'.heap[k]? = W.heap[k]?
  os : W'.os = W.os
  tape : W'.tape = W.tape
  output : W'.output = W.output
theorem own_cells {w : World} {base n : Nat} {e : TypeId} {size : Nat} {v : Value} {xs : List Value} (h : w.ownsRow base e size v n xs) {k : Nat} {o : Obj} (hk : w.heap[k]? = some o) (ho : o.isCells = false) : some k ≠ v.ownBlock := by
  rcases h.2 with ⟨rfl, _⟩ | ⟨g, cap, cur, rfl, _, hh, _⟩
  · simp [Value.ownBlock]
  · intro e
    obtain rfl : k = g := by simpa [Value.ownBlock] using e
    rw [hh] at hk; cases hk; cases ho
theorem own_above {w : World} {base n : Nat} {e : TypeId} {size : Nat} {v : Value} {xs : List Value} (h : w.ownsRow base e size v n xs) {k : Nat} (hk : k < base) : some k ≠ v.ownBlock := fun e => by
  have := (h.lt k e.symm).1
  omega
theorem Put.others {n0 Bc Bo n c : Nat} {vo vc : Value} {ws : List Nat} {W W' : World} (hP : Put n0 Bc Bo vo n ws c W W') {t t' e m : Nat} {xs : List Value} (h1 : Boxed W Bc t vc) (h2 : Boxed W Bo t' vo) (hrow : W.ownsRow n0 e 1 vo m xs) : KeepsOthers W W' :=
  ⟨hP.size, fun k o hk ho => (hP.rest k (Array.getElem?_eq_some_iff.1 hk).1 (by rintro rfl; rw [show W.heap[k]? = _ from h1] at hk; cases hk; cases ho) (by rintro rfl; rw [show W.heap[k]? = _ from h2] at hk; cases hk; cases ho) (own_cells hrow hk ho)).trans hk⟩
theorem Put.kept {n0 Bc Bo n c : Nat} {vo : Value} {ws : List Nat} {W W' : World} (hP : Put n0 Bc Bo vo n ws c W W') {e m : Nat} {xs : List Value} (hrow : W.ownsRow n0 e 1 vo m xs) (hn : n0 ≤ W.heap.size) : Kept (fun k => k < n0 ∧ k ≠ Bo ∧ k ≠ Bc) W W' :=
  fun k hk => hP.rest k (by omega) hk.2.2 hk.2.1 (own_above hrow hk.1)
theorem Put.below {n0 Bc Bo n c B : Nat} {vo : Value} {ws : List Nat} {W W' : World} (hP : Put n0 Bc Bo vo n ws c W W') {e m : Nat} {xs : List Value} (hrow : W.ownsRow n0 e 1 vo m xs) (hn : n0 ≤ W.heap.size) (h0 : B ≤ n0) (h1 : B ≤ Bc) (h2 : B ≤ Bo) : Below B W W' :=
  ⟨hP.os, hP.tape, hP.output, hP.size, fun k hk => hP.rest k (by omega) (by omega) (by omega) (own_above hrow (by omega))⟩
theorem own_cap {w : World} {base n g cap : Nat} {e : TypeId} {size : Nat} {xs : List Value} (h : w.ownsRow base e size (.slice (some ⟨g, 0, none⟩) n cap) n xs) : n ≤ cap ∧ cap ≤ maxLen := by
  rcases h.2 with ⟨he, _⟩ | ⟨g', cap', cur, he, _, _, h1, h2, _⟩
  · cases he
  · cases he; exact ⟨h1, h2⟩
theorem own_slice {w : World} {base n : Nat} {e : TypeId} {size : Nat} {v : Value} {xs : List Value} (h : w.ownsRow base e size v n xs) : ∃ A c, v = .slice A n c := by
  rcases h.2 with ⟨rfl, rfl⟩ | ⟨g, cap, cur, rfl, _⟩
  · exact ⟨none, 0, rfl⟩
  · exact ⟨_, cap, rfl⟩
set_option maxHeartbeats 1000000 in
theorem put_calls (v c n0 Bc Bo n : Nat) (vo : Value) (ws : List Nat) (W : World) (hv : v + c < 18446744073709551616) (h1 : Boxed W Bc 132 (.int .u64 (c : Int))) (h2 : Boxed W Bo 39 vo)
    (hne : Bc ≠ Bo) (hrow : W.ownsRow n0 101 1 vo n (ws.map encW)) (hn0 : n0 ≤ W.heap.size) (hlen : n + 1 ≤ 35184372088832) :
    Calls Try.prog 177 #[.int .u64 (v : Int), .pointer (some ⟨Bc, 0, none⟩), .pointer (some ⟨Bo, 0, none⟩)] W fun e W' =>
      e = .returned (.tuple #[]) ∧ Put n0 Bc Bo vo (n + 1) (ws ++ [(v + c) % 4294967296]) ((v + c) / 4294967296) W W' := by
  obtain ⟨oA, oc, rfl⟩ := own_slice hrow
  have c1 := h1.cell
  have f1 := h1.frozen
  have c2 := h2.cell
  have f2 := h2.frozen
  have HL := Lib.hid hlen
  have HV := Lib.hid hv
  have e1 : IntKind.u64.wrap ((v : Int) + (c : Int)) = ((v + c : Nat) : Int) := by
    have := HV.out
    simp only [IntKind.wrap]; simp [IntKind.bits, IntKind.signed]; omega
  have hsum : v + c = v + c := rfl
  generalize v + c = s at *
  clear hsum
  clear hlen hv
  obtain ⟨i0, hi, hz0, hz1, hz2⟩ := info_parts info_u32
  go_enter Try.func177, Try.ntmps177
  go_wp2_with (at_builtin; refine wpList_append_own _ rfl _ _ 39 rfl n0 101 i0 (.int .u32 0) 1 4 und_words hi hz0 hz1 hz2 rfl (by decide) (.slice oA n oc) n (ws.map encW) rfl (hrow.alloc _) ⟨W.heap.size, 0, none⟩ 1 1 [.int .u32 ((s : Int) % 4294967296)] rfl rfl (cell_one_new _ _ _) (by simp [Value.oneCell']) (by have := HL.out; unfold maxLen; omega) (by have := HL.out; omega) (by simp; omega) ?_; intro vo' w1 hown hg _; obtain ⟨g', cap', rfl⟩ := ownsRow_succ hown; have b1 := (h1.alloc _).kept hg (h1.not_row (by decide) hrow); have b2 := (h2.alloc _).kept hg (h2.not_row (by decide) hrow); have c3 := b1.cell; have f3 := b1.frozen; have c4 := b2.cell; have f4 := b2.frozen; clear c1 c2 f1 f2)
  go_end0
  have hw : List.map encW ws ++ [Value.int .u32 ((s : Int) % 4294967296)] = (ws ++ [s % 4294967296]).map encW := by simp [encW]
  rw [hw] at hown
  refine ⟨rfl, ?_, ⟨.slice (some ⟨g', 0, none⟩) (n + 1) cap', ?_, ?_⟩, ?_, ?_, ?_, ?_, ?_⟩
  · have := ((b1.kept (grownBy_setCell' w1 Bo (.slice (some ⟨g', 0, none⟩) (n + 1) cap')) (by simp; exact hne)).set (.int .u64 ((s : Int) / 4294967296)))
    simpa using this
  · exact (b2.set _).kept (grownBy_setCell' _ Bc _) (by simp; exact fun h => hne h.symm)
  · refine (hown.kept (grownBy_setCell' w1 Bo _) (.inr ?_)).kept (grownBy_setCell' _ Bc _) (.inr ?_)
    · exact (b2.not_row (by decide) hown).symm
    · exact (b1.not_row (by decide) hown).symm
  · simp only [World.setCell, Array.size_modify]
    have := hg.size; simp at this; omega
  · intro k hk hkc hko hkr
    rw [Below.heap_setCell _ _ _ _ hkc, Below.heap_setCell _ _ _ _ hko]
    exact (hg.block k (by simp; omega) hkr).trans (Below.heap_alloc _ _ _ hk)
  · exact hg.os
  · exact hg.tape
  · exact hg.output
set_option maxHeartbeats 1000000 in
theorem all_calls (c n0 Bc Bo n : Nat) (vo : Value) (ws : List Nat) (W : World) (h1 : Boxed W Bc 132 (.int .u64 (c : Int))) (h2 : Boxed W Bo 39 vo)
    (hrow : W.ownsRow n0 101 1 vo n (ws.map encW)) (hn0 : n0 ≤ W.heap.size) (hlen : n + 1 ≤ 35184372088832) :
    Calls Try.prog 178 #[.pointer (some ⟨Bo, 0, none⟩), .pointer (some ⟨Bc, 0, none⟩)] W fun e W' => ∃ v, e = .returned v ∧ W'.ownsRow n0 101 1 v (n + 1) ((ws ++ [c % 4294967296]).map encW) ∧ W.grownBy W' vo.ownBlock := by
  obtain ⟨oA, oc, rfl⟩ := own_slice hrow
  have c1 := h1.cell
  have c2 := h2.cell
  have HL := Lib.hid hlen
  clear hlen
  obtain ⟨i0, hi, hz0, hz1, hz2⟩ := info_parts info_u32
  go_enter Try.func178, Try.ntmps178
  go_wp2_with (at_builtin; refine wpList_append_own _ rfl _ _ 39 rfl n0 101 i0 (.int .u32 0) 1 4 und_words hi hz0 hz1 hz2 rfl (by decide) (.slice oA n oc) n (ws.map encW) rfl (hrow.alloc _) ⟨W.heap.size, 0, none⟩ 1 1 [.int .u32 ((c : Int) % 4294967296)] rfl rfl (cell_one_new _ _ _) (by simp [Value.oneCell']) (by have := HL.out; unfold maxLen; omega) (by have := HL.out; omega) (by simp; omega) ?_; intro vo' w1 hown hg _; obtain ⟨g', cap', rfl⟩ := ownsRow_succ hown; clear c1 c2)
  go_ret
  refine ⟨_, rfl, ?_, World.grownBy.trans (World.grownBy_alloc W _ _) hg⟩
  have hw : List.map encW ws ++ [Value.int .u32 ((c : Int) % 4294967296)] = (ws ++ [c % 4294967296]).map encW := by simp [encW]
  rw [hw] at hown
  exact hown
end Go.Proofs.Ytnmmgegnioihmaa
namespace Go.Proofs.Ytnmmgegnioihmaa
open Go.RowKit Go.Shelf

attribute [local go_sem] Oper.semAt_some

def sums (pre : List Wp) : List Nat := pre.map fun x => x.1.1 + x.1.2
theorem sums_snoc (pre : List Wp) (x : Wp) : sums (pre ++ [x]) = sums pre ++ [x.1.1 + x.1.2] := by simp [sums]
theorem sums_side {us vs : List Nat} (ru : Rng us) (rv : Rng vs) (k : Nat) : sums (sideBy ru rv k) = digs us vs (fun x y => x + y) k := by simp [sums, sideBy, digs]
theorem sums_lt (pre : List Wp) : ∀ v ∈ sums pre, v < 8589934592 := fun v h => by
  obtain ⟨x, _, rfl⟩ := List.mem_map.1 h
  have := x.2
  omega
set_option maxRecDepth 100000 in
set_option maxHeartbeats 2000000 in
theorem whole_add_calls (va vb : Value) (us vs : List Nat) (w : World) (ha : IsW w va us) (hb : IsW w vb vs) (hlen : max us.length vs.length + 1 ≤ 35184372088832) :
    Calls Try.prog 148 #[va, vb] w (PostW w (addW us vs)) := by
  obtain ⟨ru, A, ca, rfl, hra⟩ := ha
  obtain ⟨rv, B, cb, rfl, hrb⟩ := hb
  have HL := Lib.hid hlen
  clear hlen
  refine (callsIn_wide (n := 3)).1 ?_
  refine callsIn_of_wp_marks Try.func148 rfl trivial ?_ rfl
  simp only [Try.ntmps148, List.size_toArray, List.length_cons, List.length_nil, Nat.reduceAdd, Nat.reduceSub, Array.replicate_succ, Array.replicate_zero, List.push_toArray, List.append_toArray, List.nil_append, List.cons_append]
  gi_wp2_with (first
    | (refine ⟨trivial, ?_⟩; gi_at_call 168; refine (callsIn_wide.2 (carrier_calls _)).mono ?_; rintro e w' ⟨rfl, rfl⟩)
    | (refine ⟨trivial, ?_⟩; gi_at_call 169; refine (callsIn_wide.2 (pairs_calls .nilFunc .nilFunc _ _ _ _ _ _ _)).mono ?_; rintro e w' ⟨rfl, rfl⟩))
  generalize hW0 : World.alloc _ _ = W0
  have hb0 : Below w.heap.size w W0 := by subst hW0; exact bl_alloc2 (bl_alloc2 (bl_alloc2 (bl_alloc2 (bl_alloc _ _) _) _) _) _
  have hz : W0.heap.size = w.heap.size + 5 := by subst hW0; simp
  have hBo : Boxed W0 w.heap.size 39 (.slice none 0 0) := by subst hW0; exact ((((Boxed.new w _ _).alloc _).alloc _).alloc _).alloc _
  have hBc : Boxed W0 (w.heap.size + 1) 132 (.int .u64 0) := by subst hW0; simpa using ((((Boxed.new (w.alloc _) _ _).alloc _).alloc _).alloc _)
  have hBf : W0.cell? ⟨w.heap.size + 1 + 1, 0, none⟩ = some (.func (.func 177) #[] #[.pointer (some ⟨w.heap.size + 1, 0, none⟩), .pointer (some ⟨w.heap.size, 0, none⟩)]) := by subst hW0; go_simp
  have hBa : W0.cell? ⟨w.heap.size + 1 + 1 + 1, 0, none⟩ = some (.slice A us.length ca) := by subst hW0; go_simp
  have hBb : W0.cell? ⟨w.heap.size + 1 + 1 + 1 + 1, 0, none⟩ = some (.slice B vs.length cb) := by subst hW0; go_simp
  clear hW0
  have hS : ∀ k, (k < W0.heap.size ∧ k ≠ w.heap.size ∧ k ≠ w.heap.size + 1) → k < W0.heap.size := fun k h => h.1
  have hread : ∀ W', Kept (fun k => k < W0.heap.size ∧ k ≠ w.heap.size ∧ k ≠ w.heap.size + 1) W0 W' → W'.cell? ⟨w.heap.size + 1 + 1 + 1, 0, none⟩ = some (.slice A us.length ca) ∧ W'.cell? ⟨w.heap.size + 1 + 1 + 1 + 1, 0, none⟩ = some (.slice B vs.length cb) ∧ Row encW W' A ca us ∧ Row encW W' B cb vs := fun W' h =>
    ⟨(h.cell (p := ⟨w.heap.size + 1 + 1 + 1, 0, none⟩) ⟨by dsimp only; omega, by dsimp only; omega, by dsimp only; omega⟩).trans hBa, (h.cell (p := ⟨w.heap.size + 1 + 1 + 1 + 1, 0, none⟩) ⟨by dsimp only; omega, by dsimp only; omega, by dsimp only; omega⟩).trans hBb,
      hra.same fun k hk => (h k ⟨by omega, by omega, by omega⟩).trans (hb0.block k hk), hrb.same fun k hk => (h k ⟨by omega, by omega, by omega⟩).trans (hb0.block k hk)⟩
  refine wpIn_rangeFunc_ownF rfl (by omega) (gf := 179) (lb := #[.pointer (some ⟨w.heap.size + 1 + 1 + 1, 0, none⟩), .pointer (some ⟨w.heap.size + 1 + 1 + 1 + 1, 0, none⟩)]) rfl trivial (enters_of Try.func179 (by kernel_rfl) rfl)
    (pairs_stops _ _ ca cb A B us vs ru rv _ W0 hS hread) (fun h k => h.trans k) (kept_b hS) (Below.refl _ _) (fun _ => rfl)
    (fun pre W => (Boxed W (w.heap.size + 1) 132 (.int .u64 ((crun (sums pre)).2 : Int)) ∧ (∃ v, Boxed W w.heap.size 39 v ∧ W.ownsRow W0.heap.size 101 1 v pre.length ((crun (sums pre)).1.map encW) ∧ True)) ∧ Kept (fun k => k < W0.heap.size ∧ k ≠ w.heap.size ∧ k ≠ w.heap.size + 1) W0 W ∧ W0.heap.size ≤ W.heap.size ∧ Below w.heap.size w W)
    (fun _ _ _ => False) ?hI (fun _ _ _ _ _ h _ _ => h) ?h0
    (fun x => { tmps := #[.slice A us.length ca, .slice B vs.length cb, undef, undef, .slice none 0 0, .pointer (some ⟨w.heap.size + 1 + 1, 0, none⟩),
      .func (.func 178) #[] #[.pointer (some ⟨w.heap.size, 0, none⟩), .pointer (some ⟨w.heap.size + 1, 0, none⟩)], .int .u64 (x.1.1 : Int), .int .u64 (x.1.2 : Int),
      .tuple #[.func (.func 177) #[] #[.pointer (some ⟨w.heap.size + 1, 0, none⟩), .pointer (some ⟨w.heap.size, 0, none⟩)], .func (.func 178) #[] #[.pointer (some ⟨w.heap.size, 0, none⟩), .pointer (some ⟨w.heap.size + 1, 0, none⟩)]],
      .tuple #[.func (.func 177) #[] #[.pointer (some ⟨w.heap.size + 1, 0, none⟩), .pointer (some ⟨w.heap.size, 0, none⟩)], .func (.func 178) #[] #[.pointer (some ⟨w.heap.size, 0, none⟩), .pointer (some ⟨w.heap.size + 1, 0, none⟩)]],
      .func (.func 177) #[] #[.pointer (some ⟨w.heap.size + 1, 0, none⟩), .pointer (some ⟨w.heap.size, 0, none⟩)], .func (.func 178) #[] #[.pointer (some ⟨w.heap.size, 0, none⟩), .pointer (some ⟨w.heap.size + 1, 0, none⟩)],
      .slice A us.length ca, .slice B vs.length cb, .func (.func 179) #[] #[.pointer (some ⟨w.heap.size + 1 + 1 + 1, 0, none⟩), .pointer (some ⟨w.heap.size + 1 + 1 + 1 + 1, 0, none⟩)],
      .int .u64 (x.1.1 : Int), .int .u64 (x.1.2 : Int), undef, undef, undef, undef, undef, undef, undef], defers := [] }) ?assign ?body ?done ?stop
  case hI =>
    refine OwnFrom.and (Own.from ?_ _) (OwnFrom.and ?_ (OwnFrom.and ?_ (ownFrom_below (Nat.le_refl _) (by omega))))
    · intro s X Y row hs hg hr
      exact ⟨boxed_own _ _ (fun s => .int .u64 ((crun (sums s)).2 : Int)) s X Y row hs.1 hg hr, holdsRow_own _ _ _ _ _ (fun s => s.length) (fun s => (crun (sums s)).1.map encW) (fun _ _ => True) s X Y row hs.2 hg hr⟩
    · intro s X Y row hs hg hr k hk
      refine (hg.block k ?_ ?_).trans (hs k hk)
      · have h1 := hs k hk
        rw [Array.getElem?_eq_getElem hk.1] at h1
        exact (Array.getElem?_eq_some_iff.1 h1).1
      · intro e; have := (hr k e.symm).1; omega
    · intro s X Y row hs hg hr
      exact Nat.le_trans hs hg.size
  case h0 => exact ⟨⟨hBc, _, hBo, World.ownsRow_nil _ _ _ _, trivial⟩, Kept.refl _ _, Nat.le_refl _, hb0⟩
  case assign =>
    intro l x W K hK
    gi_wp2
    exact hK
  case body =>
    rintro l pre x W ⟨⟨h1, vo, h2, hrow, -⟩, hk, hsz, hbl⟩ hlt
    obtain ⟨⟨x, y⟩, hx, hy⟩ := x
    have c5 := (hk.cell (p := ⟨w.heap.size + 1 + 1, 0, none⟩) ⟨by dsimp only; omega, by dsimp only; omega, by dsimp only; omega⟩).trans hBf
    have e1 : IntKind.u64.wrap ((x : Int) + (y : Int)) = ((x + y : Nat) : Int) := by
      simp only [IntKind.wrap]; simp [IntKind.bits, IntKind.signed]; omega
    have hc := crun_carry (sums_lt pre)
    have HC := Lib.hid hc
    clear hc
    gi_wp2_with fail
    rw [show ((x : Int) + (y : Int)) = ((x + y : Nat) : Int) from rfl]
    refine ⟨trivial, ?_⟩
    gi_at_call 177
    refine (CallsIn.inRound l (callsIn_wide.2 (put_calls (x + y) _ W0.heap.size _ _ _ vo _ W (by have := HC.out; dsimp only at hx hy; omega) h1 h2 (by omega) hrow hsz (by have := HL.out; omega)))).mono ?_
    rintro e W' ⟨rfl, hP⟩
    gi_wp2
    refine ⟨hP.others h1 h2 hrow, hP.kept hrow hsz, ⟨?_, ?_⟩, hk.trans (hP.kept hrow hsz), Nat.le_trans hsz hP.size, hbl.trans (hP.below hrow hsz (by omega) (by omega) (by omega))⟩
    · rw [sums_snoc, crun_snoc]; exact hP.carry
    · obtain ⟨vo', h3, h4⟩ := hP.out
      rw [sums_snoc, crun_snoc]; exact ⟨vo', h3, by simpa using h4, trivial⟩
  case done =>
    rintro D xs W hD rfl ⟨⟨h1, vo, h2, hrow, -⟩, hk, hsz, hbl⟩ hK
    gi_wp2_with (refine ⟨trivial, ?_⟩; gi_at_call 178; refine (callsIn_wide.2 (all_calls _ W0.heap.size _ _ _ vo _ W h1 h2 hrow hsz (by rw [sideBy_length]; exact HL.out))).mono ?_; rintro e W' ⟨v, rfl, hown, hg⟩)
    have hK' : W'.heap[D]? = some (.deferred (some [])) := (hg.block D (Array.getElem?_eq_some_iff.1 hK).1 (own_cells hrow hK rfl)).trans hK
    refine ⟨by simp, .inl ⟨_, _, rfl, run_takeDeferred hK', ?_⟩⟩
    refine ⟨_, results_tmp rfl _ _ _, addW us vs, v, rfl, rfl, ?_, ?_⟩
    · have h5 := ownsRow_putObj hown (.deferred none) hK' rfl
      obtain ⟨A', c', rfl, hl, hN⟩ := NRow.of_own h5
      have h6 : (crun (sums (sideBy ru rv (max us.length vs.length)))).1 ++ [(crun (sums (sideBy ru rv (max us.length vs.length)))).2 % 4294967296] = addW us vs := by rw [sums_side]; rfl
      rw [h6] at hN ⊢
      exact ⟨addW_rng _ _, A', c', rfl, hN.mono (by omega)⟩
    · exact (grown_below hbl hg hbl.size (fun k e => by have := (hrow.lt k e).1; omega)).grown (grownBy_putObj' W' D (.deferred none)) (by have := hbl.size; have := hg.size; omega) (fun k e => by cases e; omega)
  case stop =>
    rintro D c pre W _ _ h _
    exact h.elim
end Go.Proofs.Ytnmmgegnioihmaa
namespace Go.Proofs.Ytnmmgegnioihmaa
open Go.RowKit Go.Shelf

attribute [local go_sem] Oper.semAt_some

def difs (pre : List Wp) : List Nat := 4294967296 :: pre.map fun x => subD x.1.1 x.1.2
theorem difs_snoc (pre : List Wp) (x : Wp) : difs (pre ++ [x]) = difs pre ++ [subD x.1.1 x.1.2] := by simp [difs]
theorem difs_side {us vs : List Nat} (ru : Rng us) (rv : Rng vs) (k : Nat) : difs (sideBy ru rv k) = 4294967296 :: digs us vs subD k := by simp [difs, sideBy, digs]
theorem difs_len (pre : List Wp) : (difs pre).length = pre.length + 1 := by simp [difs]
theorem difs_lt (pre : List Wp) : ∀ v ∈ difs pre, v < 8589934592 := fun v h => by
  rcases List.mem_cons.1 h with rfl | h
  · omega
  · obtain ⟨x, _, rfl⟩ := List.mem_map.1 h
    exact subD_lt x.2.1
theorem crun_first : crun [4294967296] = ([0], 1) := by decide +kernel
theorem subD_cast {x y : Nat} (hy : y < 4294967296) : (x : Int) + 4294967296 - 1 - (y : Int) = ((subD x y : Nat) : Int) := by unfold subD; omega
set_option maxRecDepth 100000 in
set_option maxHeartbeats 2000000 in
theorem whole_sub_calls (va vb : Value) (us vs : List Nat) (w : World) (ha : IsW w va us) (hb : IsW w vb vs) (hlen : max us.length vs.length + 2 ≤ 35184372088832) :
    Calls Try.prog 150 #[va, vb] w (PostW w (subW us vs)) := by
  obtain ⟨ru, A, ca, rfl, hra⟩ := ha
  obtain ⟨rv, B, cb, rfl, hrb⟩ := hb
  have HL := Lib.hid hlen
  clear hlen
  refine (callsIn_wide (n := 3)).1 ?_
  refine callsIn_of_wp_marks Try.func150 rfl trivial ?_ rfl
  simp only [Try.ntmps150, List.size_toArray, List.length_cons, List.length_nil, Nat.reduceAdd, Nat.reduceSub, Array.replicate_succ, Array.replicate_zero, List.push_toArray, List.append_toArray, List.nil_append, List.cons_append]
  gi_wp2_with (first
    | (refine ⟨trivial, ?_⟩; gi_at_call 168; refine (callsIn_wide.2 (carrier_calls _)).mono ?_; rintro e w' ⟨rfl, rfl⟩))
  generalize hV0 : World.alloc _ _ = V0
  have hbv : Below w.heap.size w V0 := by subst hV0; exact bl_alloc2 (bl_alloc2 (bl_alloc _ _) _) _
  have hzv : V0.heap.size = w.heap.size + 3 := by subst hV0; simp
  have gBo : Boxed V0 w.heap.size 39 (.slice none 0 0) := by subst hV0; exact ((Boxed.new w _ _).alloc _).alloc _
  have gBc : Boxed V0 (w.heap.size + 1) 132 (.int .u64 ((0 : Nat) : Int)) := by subst hV0; simpa using ((Boxed.new (w.alloc _) _ _).alloc _)
  have gBf : V0.cell? ⟨w.heap.size + 1 + 1, 0, none⟩ = some (.func (.func 177) #[] #[.pointer (some ⟨w.heap.size + 1, 0, none⟩), .pointer (some ⟨w.heap.size, 0, none⟩)]) := by subst hV0; go_simp
  clear hV0
  rw [show (4294967296 : Int) = ((4294967296 : Nat) : Int) from rfl]
  refine ⟨trivial, ?_⟩
  gi_at_call 177
  refine (callsIn_wide.2 (put_calls 4294967296 0 (w.heap.size + 3) _ _ 0 (.slice none 0 0) [] V0 (by omega) gBc gBo (by omega) (World.ownsRow_nil _ _ _ _) (by omega) (by have := HL.out; omega))).mono ?_
  rintro e V1 ⟨rfl, hP0⟩
  have hb1 : Below w.heap.size w V1 := hbv.trans (hP0.below (World.ownsRow_nil _ _ 101 _) (by omega) (by omega) (by omega) (by omega))
  have hz1 : w.heap.size + 3 ≤ V1.heap.size := by have := hP0.size; omega
  have hBf1 : V1.cell? ⟨w.heap.size + 1 + 1, 0, none⟩ = some (.func (.func 177) #[] #[.pointer (some ⟨w.heap.size + 1, 0, none⟩), .pointer (some ⟨w.heap.size, 0, none⟩)]) :=
    (World.cell?_of_block (w := V0) (hP0.rest (w.heap.size + 1 + 1) (by omega) (by omega) (by omega) (by simp [Value.ownBlock]))).trans gBf
  obtain ⟨vo1, hBo1, hrow1⟩ := hP0.out
  have hBc1 := hP0.carry
  clear gBo gBc gBf hP0 hbv hzv V0
  gi_wp2_with (first
    | (refine ⟨trivial, ?_⟩; gi_at_call 169; refine (callsIn_wide.2 (pairs_calls .nilFunc .nilFunc _ _ _ _ _ _ _)).mono ?_; rintro e w' ⟨rfl, rfl⟩))
  generalize hW0 : World.alloc _ _ = W0
  have hb0 : Below w.heap.size w W0 := by subst hW0; exact (hb1.alloc hb1.size _).alloc (by simp; omega) _
  have hz : W0.heap.size = V1.heap.size + 2 := by subst hW0; simp
  have hBo : Boxed W0 w.heap.size 39 vo1 := by subst hW0; exact (hBo1.alloc _).alloc _
  have hBc : Boxed W0 (w.heap.size + 1) 132 (.int .u64 ((crun (difs [])).2 : Int)) := by subst hW0; exact (hBc1.alloc _).alloc _
  have hrow : W0.ownsRow (w.heap.size + 3) 101 1 vo1 (([] : List Wp).length + 1) ((crun (difs [])).1.map encW) := by subst hW0; exact (hrow1.alloc _).alloc _
  have hBf : W0.cell? ⟨w.heap.size + 1 + 1, 0, none⟩ = some (.func (.func 177) #[] #[.pointer (some ⟨w.heap.size + 1, 0, none⟩), .pointer (some ⟨w.heap.size, 0, none⟩)]) := by subst hW0; exact (World.cell?_alloc_lt _ _ _ (by simp; omega)).trans ((World.cell?_alloc_lt _ _ _ (by simp; omega)).trans hBf1)
  have hBa : Boxed W0 V1.heap.size 39 (.slice A us.length ca) := by subst hW0; exact (Boxed.new V1 _ _).alloc _
  have hBb : Boxed W0 (V1.heap.size + 1) 39 (.slice B vs.length cb) := by subst hW0; simpa using Boxed.new (V1.alloc _) _ _
  clear hW0 hBo1 hBc1 hrow1 hBf1
  obtain ⟨S, hSdef⟩ : ∃ S : Nat → Prop, S = fun k => (k < w.heap.size + 3 ∧ k ≠ w.heap.size ∧ k ≠ w.heap.size + 1) ∨ k = V1.heap.size ∨ k = V1.heap.size + 1 := ⟨_, rfl⟩
  have hS : ∀ k, S k → k < W0.heap.size := fun k h => by subst hSdef; omega
  have sa : S V1.heap.size := by subst hSdef; exact .inr (.inl rfl)
  have sb : S (V1.heap.size + 1) := by subst hSdef; exact .inr (.inr rfl)
  have sw : ∀ k, k < w.heap.size → S k := fun k hk => by subst hSdef; exact .inl ⟨by omega, by omega, by omega⟩
  have sf : S (w.heap.size + 1 + 1) := by subst hSdef; exact .inl ⟨by omega, by omega, by omega⟩
  have keptPut : ∀ {W W' : World} {vo : Value} {n n' c : Nat} {ws : List Nat} {xs : List Value}, Kept S W0 W → W.ownsRow (w.heap.size + 3) 101 1 vo n xs → Put (w.heap.size + 3) (w.heap.size + 1) w.heap.size vo n' ws c W W' → W0.heap.size ≤ W.heap.size → Kept S W W' := by
    intro W W' vo n n' c ws xs hk hr hP hs k hSk
    have ka : Boxed W V1.heap.size 39 (.slice A us.length ca) := (hk _ sa).trans hBa
    have kb : Boxed W (V1.heap.size + 1) 39 (.slice B vs.length cb) := (hk _ sb).trans hBb
    have hlt := hS k hSk
    rw [hSdef] at hSk
    rcases hSk with ⟨g1, g2, g3⟩ | rfl | rfl
    · exact hP.rest k (by omega) (by omega) (by omega) (own_above hr g1)
    · exact hP.rest _ (by omega) (by omega) (by omega) (ka.not_row (by decide) hr)
    · exact hP.rest _ (by omega) (by omega) (by omega) (kb.not_row (by decide) hr)
  clear hSdef
  have hread : ∀ W', Kept S W0 W' → W'.cell? ⟨V1.heap.size, 0, none⟩ = some (.slice A us.length ca) ∧ W'.cell? ⟨V1.heap.size + 1, 0, none⟩ = some (.slice B vs.length cb) ∧ Row encW W' A ca us ∧ Row encW W' B cb vs := fun W' h =>
    ⟨(h.cell (p := ⟨V1.heap.size, 0, none⟩) sa).trans hBa.cell, (h.cell (p := ⟨V1.heap.size + 1, 0, none⟩) sb).trans hBb.cell,
      hra.same fun k hk => (h k (sw k hk)).trans (hb0.block k hk), hrb.same fun k hk => (h k (sw k hk)).trans (hb0.block k hk)⟩
  refine wpIn_rangeFunc_ownF rfl (by omega) (gf := 179) (lb := #[.pointer (some ⟨V1.heap.size, 0, none⟩), .pointer (some ⟨V1.heap.size + 1, 0, none⟩)]) rfl trivial (enters_of Try.func179 (by kernel_rfl) rfl)
    (pairs_stops _ _ ca cb A B us vs ru rv S W0 hS hread) (fun h k => h.trans k) (kept_b hS) (Below.refl _ _) (fun _ => rfl)
    (fun pre W => (Boxed W (w.heap.size + 1) 132 (.int .u64 ((crun (difs pre)).2 : Int)) ∧ (∃ v, Boxed W w.heap.size 39 v ∧ W.ownsRow (w.heap.size + 3) 101 1 v (pre.length + 1) ((crun (difs pre)).1.map encW) ∧ True)) ∧ Kept S W0 W ∧ W0.heap.size ≤ W.heap.size ∧ Below w.heap.size w W)
    (fun _ _ _ => False) ?hI (fun _ _ _ _ _ h _ _ => h) ?h0
    (fun x => { tmps := #[.slice A us.length ca, .slice B vs.length cb, undef, undef, .slice none 0 0, .pointer (some ⟨w.heap.size + 1 + 1, 0, none⟩),
      .func (.func 178) #[] #[.pointer (some ⟨w.heap.size, 0, none⟩), .pointer (some ⟨w.heap.size + 1, 0, none⟩)], .int .u64 (x.1.1 : Int), .int .u64 (x.1.2 : Int), undef,
      .tuple #[.func (.func 177) #[] #[.pointer (some ⟨w.heap.size + 1, 0, none⟩), .pointer (some ⟨w.heap.size, 0, none⟩)], .func (.func 178) #[] #[.pointer (some ⟨w.heap.size, 0, none⟩), .pointer (some ⟨w.heap.size + 1, 0, none⟩)]],
      .tuple #[.func (.func 177) #[] #[.pointer (some ⟨w.heap.size + 1, 0, none⟩), .pointer (some ⟨w.heap.size, 0, none⟩)], .func (.func 178) #[] #[.pointer (some ⟨w.heap.size, 0, none⟩), .pointer (some ⟨w.heap.size + 1, 0, none⟩)]],
      .func (.func 177) #[] #[.pointer (some ⟨w.heap.size + 1, 0, none⟩), .pointer (some ⟨w.heap.size, 0, none⟩)], .func (.func 178) #[] #[.pointer (some ⟨w.heap.size, 0, none⟩), .pointer (some ⟨w.heap.size + 1, 0, none⟩)],
      .func (.func 177) #[] #[.pointer (some ⟨w.heap.size + 1, 0, none⟩), .pointer (some ⟨w.heap.size, 0, none⟩)], .tuple #[],
      .slice A us.length ca, .slice B vs.length cb, .func (.func 179) #[] #[.pointer (some ⟨V1.heap.size, 0, none⟩), .pointer (some ⟨V1.heap.size + 1, 0, none⟩)],
      .int .u64 (x.1.1 : Int), .int .u64 (x.1.2 : Int), undef, undef, undef, undef, undef, undef, undef, undef, undef, undef, undef, undef, undef, undef], defers := [] }) ?assign ?body ?done ?stop
  case hI =>
    refine OwnFrom.and (Own.from ?_ _) (OwnFrom.and ?_ (OwnFrom.and ?_ (ownFrom_below (Nat.le_refl _) (by omega))))
    · intro s X Y row hs hg hr
      exact ⟨boxed_own _ _ (fun s => .int .u64 ((crun (difs s)).2 : Int)) s X Y row hs.1 hg hr, holdsRow_own _ _ _ _ _ (fun s => s.length + 1) (fun s => (crun (difs s)).1.map encW) (fun _ _ => True) s X Y row hs.2 hg hr⟩
    · intro s X Y row hs hg hr k hk
      refine (hg.block k ?_ ?_).trans (hs k hk)
      · have h1 := hs k hk
        rw [Array.getElem?_eq_getElem (hS k hk)] at h1
        exact (Array.getElem?_eq_some_iff.1 h1).1
      · intro e; have := (hr k e.symm).1; have := hS k hk; omega
    · intro s X Y row hs hg hr
      exact Nat.le_trans hs hg.size
  case h0 => exact ⟨⟨hBc, _, hBo, hrow, trivial⟩, Kept.refl _ _, Nat.le_refl _, hb0⟩
  case assign =>
    intro l x W K hK
    gi_wp2
    exact hK
  case body =>
    rintro l pre x W ⟨⟨h1, vo, h2, hrow, -⟩, hk, hsz, hbl⟩ hlt
    obtain ⟨⟨x, y⟩, hx, hy⟩ := x
    have c5 := (hk.cell (p := ⟨w.heap.size + 1 + 1, 0, none⟩) sf).trans hBf
    have hc := crun_carry (difs_lt pre)
    have HC := Lib.hid hc
    have hd := Lib.hid (subD_cast (x := x) hy)
    have hdl := Lib.hid (subD_lt (x := x) (y := y) hx)
    clear hc
    dsimp only at hx hy
    gi_wp2_with fail
    rw [hd.out]
    refine ⟨trivial, ?_⟩
    gi_at_call 177
    refine (CallsIn.inRound l (callsIn_wide.2 (put_calls (subD x y) _ (w.heap.size + 3) _ _ _ vo _ W (by have := HC.out; have := hdl.out; omega) h1 h2 (by omega) hrow (by omega) (by have := HL.out; omega)))).mono ?_
    rintro e W' ⟨rfl, hP⟩
    gi_wp2
    refine ⟨hP.others h1 h2 hrow, keptPut hk hrow hP hsz, ⟨?_, ?_⟩, hk.trans (keptPut hk hrow hP hsz), Nat.le_trans hsz hP.size, hbl.trans (hP.below hrow (by omega) (by omega) (by omega) (by omega))⟩
    · rw [difs_snoc, crun_snoc]; exact hP.carry
    · obtain ⟨vo', h3, h4⟩ := hP.out
      rw [difs_snoc, crun_snoc]; exact ⟨vo', h3, by simpa using h4, trivial⟩
  case done =>
    rintro D xs W hD rfl ⟨⟨h1, vo, h2, hrow, -⟩, hk, hsz, hbl⟩ hK
    have h6 : (crun (difs (sideBy ru rv (max us.length vs.length)))).1 ++ [(crun (difs (sideBy ru rv (max us.length vs.length)))).2 % 4294967296] = subAll us vs := by rw [difs_side]; rfl
    rw [sideBy_length] at hrow
    generalize crun (difs (sideBy ru rv (max us.length vs.length))) = p at h1 hrow h6
    have H6 := Lib.hid h6
    obtain ⟨M, hM⟩ : ∃ M, M = max us.length vs.length := ⟨_, rfl⟩
    rw [← hM] at hrow
    have hMb : M + 2 ≤ 9223372036854775807 := by have := HL.out; omega
    have HN := Lib.hid hM
    clear h6 hM
    gi_wp2_with (refine ⟨trivial, ?_⟩; gi_at_call 178; refine (callsIn_wide.2 (all_calls _ (w.heap.size + 3) _ _ _ vo _ W h1 h2 hrow (by omega) (by have := HN.out; have := HL.out; omega))).mono ?_; rintro e W' ⟨v, rfl, hown, hg⟩; obtain ⟨g', cap', rfl⟩ := ownsRow_succ hown; obtain ⟨hcap, -⟩ := own_cap hown)
    have hK' : W'.heap[D]? = some (.deferred (some [])) := (hg.block D (Array.getElem?_eq_some_iff.1 hK).1 (own_cells hrow hK rfl)).trans hK
    refine ⟨by simp, .inl ⟨_, _, rfl, run_takeDeferred hK', ?_⟩⟩
    refine ⟨_, results_tmp rfl _ _ _, subW us vs, .slice (some ⟨g', 1, none⟩) M (cap' - 1), rfl, rfl, ?_, ?_⟩
    · have h5 := ownsRow_putObj hown (.deferred none) hK' rfl
      rw [H6.out] at h5
      obtain ⟨A', c', he, hl, hN⟩ := NRow.of_own h5
      injection he with e1 e2 e3
      subst e1; subst e3
      refine ⟨subW_rng _ _, _, _, by rw [subW_len, ← HN.out], ?_⟩
      unfold subW
      have h7 := (hN.take ((subAll us vs).length - 1)).mono (show w.heap.size ≤ w.heap.size + 3 by omega)
      generalize hxs : List.take ((subAll us vs).length - 1) (subAll us vs) = xs at *
      cases xs with
      | nil => have := congrArg List.length hxs; simp [subAll_len] at this
      | cons x xs => simpa using h7.drop1
    · exact (grown_below hbl hg hbl.size (fun k e => by have := (hrow.lt k e).1; omega)).grown (grownBy_putObj' W' D (.deferred none)) (by have := hbl.size; have := hg.size; omega) (fun k e => by cases e; omega)
  case stop =>
    rintro D c pre W _ _ h _
    exact h.elim
end Go.Proofs.Ytnmmgegnioihmaa
namespace Go.Proofs.Ytnmmgegnioihmaa
open Go.RowKit Go.Shelf

attribute [local go_sem] Oper.semAt_some

def cmps (pre : List Wp) : Int := pre.foldl (fun c x => cmpD c x.1.1 x.1.2) 0
theorem cmps_snoc (pre : List Wp) (x : Wp) : cmps (pre ++ [x]) = cmpD (cmps pre) x.1.1 x.1.2 := by simp [cmps]
theorem cmps_side {us vs : List Nat} (ru : Rng us) (rv : Rng vs) (k : Nat) : cmps (sideBy ru rv k) = cmpRun us vs k := by
  induction k with
  | zero => rfl
  | succ k ih => rw [sideBy_succ, cmps_snoc, ih, cmpRun_succ]
set_option maxRecDepth 100000 in
set_option maxHeartbeats 2000000 in
theorem whole_cmp_calls (va vb : Value) (us vs : List Nat) (w : World) (ha : IsW w va us) (hb : IsW w vb vs) :
    Calls Try.prog 149 #[va, vb] w fun e w' => e = .returned (.int .i64 (cmpW us vs)) ∧ Below w.heap.size w w' := by
  obtain ⟨ru, A, ca, rfl, hra⟩ := ha
  obtain ⟨rv, B, cb, rfl, hrb⟩ := hb
  have la : us.length ≤ 9223372036854775807 := Nat.le_trans hra.le (by have := hra.mx; unfold maxLen at this; omega)
  have lb : vs.length ≤ 9223372036854775807 := Nat.le_trans hrb.le (by have := hrb.mx; unfold maxLen at this; omega)
  by_cases hl : us.length = vs.length
  · have hq : (((us.length : Int) - (vs.length : Int)) != 0) = false := by rw [hl]; simp
    have hq2 : ((us.length : Int) - (vs.length : Int)) = 0 := by omega
    have hfin : cmpW us vs = cmps (sideBy ru rv (max us.length vs.length)) := by rw [cmps_side]; unfold cmpW; rw [if_pos hl]; congr 1; omega
    have HF := Lib.hid hfin
    clear hl hfin
    refine (callsIn_wide (n := 3)).1 ?_
    refine callsIn_of_wp_marks Try.func149 rfl trivial ?_ rfl
    simp only [Try.ntmps149, List.size_toArray, List.length_cons, List.length_nil, Nat.reduceAdd, Nat.reduceSub, Array.replicate_succ, Array.replicate_zero, List.push_toArray, List.append_toArray, List.nil_append, List.cons_append]
    gi_wp2_with (refine ⟨trivial, ?_⟩; gi_at_call 169; refine (callsIn_wide.2 (pairs_calls .nilFunc .nilFunc _ _ _ _ _ _ _)).mono ?_; rintro e w' ⟨rfl, rfl⟩)
    generalize hW0 : World.alloc _ _ = W0
    have hb0 : Below w.heap.size w W0 := by subst hW0; exact bl_alloc2 (bl_alloc2 (bl_alloc _ _) _) _
    have hz : W0.heap.size = w.heap.size + 3 := by subst hW0; simp
    have hBc : Boxed W0 w.heap.size 3 (.int .i64 0) := by subst hW0; exact ((Boxed.new w _ _).alloc _).alloc _
    have hBa : W0.cell? ⟨w.heap.size + 1, 0, none⟩ = some (.slice A us.length ca) := by subst hW0; go_simp
    have hBb : W0.cell? ⟨w.heap.size + 1 + 1, 0, none⟩ = some (.slice B vs.length cb) := by subst hW0; go_simp
    clear hW0 hq hq2
    have hS : ∀ k, (k < W0.heap.size ∧ k ≠ w.heap.size) → k < W0.heap.size := fun k h => h.1
    have hread : ∀ W', Kept (fun k => k < W0.heap.size ∧ k ≠ w.heap.size) W0 W' → W'.cell? ⟨w.heap.size + 1, 0, none⟩ = some (.slice A us.length ca) ∧ W'.cell? ⟨w.heap.size + 1 + 1, 0, none⟩ = some (.slice B vs.length cb) ∧ Row encW W' A ca us ∧ Row encW W' B cb vs := fun W' h =>
      ⟨(h.cell (p := ⟨w.heap.size + 1, 0, none⟩) ⟨by dsimp only; omega, by dsimp only; omega⟩).trans hBa, (h.cell (p := ⟨w.heap.size + 1 + 1, 0, none⟩) ⟨by dsimp only; omega, by dsimp only; omega⟩).trans hBb,
        hra.same fun k hk => (h k ⟨by omega, by omega⟩).trans (hb0.block k hk), hrb.same fun k hk => (h k ⟨by omega, by omega⟩).trans (hb0.block k hk)⟩
    refine wpIn_rangeFunc_ownF rfl (by omega) (gf := 179) (lb := #[.pointer (some ⟨w.heap.size + 1, 0, none⟩), .pointer (some ⟨w.heap.size + 1 + 1, 0, none⟩)]) rfl trivial (enters_of Try.func179 (by kernel_rfl) rfl)
      (pairs_stops _ _ ca cb A B us vs ru rv _ W0 hS hread) (fun h k => h.trans k) (kept_b hS) (Below.refl _ _) (fun _ => rfl)
      (fun pre W => Boxed W w.heap.size 3 (.int .i64 (cmps pre)) ∧ Below w.heap.size w W)
      (fun _ _ _ => False) ?hI (fun _ _ _ _ _ h _ _ => h) ⟨hBc, hb0⟩
      (fun x => { tmps := #[.slice A us.length ca, .slice B vs.length cb, undef, undef, .int .i64 0, .int .i64 0, .pointer (some ⟨w.heap.size, 0, none⟩), .int .u64 (x.1.1 : Int), .int .u64 (x.1.2 : Int),
        .slice A us.length ca, .int .i64 us.length, .slice B vs.length cb, .int .i64 vs.length, .int .i64 0, .int .i64 0, .bool false, undef, .slice A us.length ca, .slice B vs.length cb,
        .func (.func 179) #[] #[.pointer (some ⟨w.heap.size + 1, 0, none⟩), .pointer (some ⟨w.heap.size + 1 + 1, 0, none⟩)],
        .int .u64 (x.1.1 : Int), .int .u64 (x.1.2 : Int), undef, undef, undef, undef, undef, undef, undef, undef, undef], defers := [] }) ?assign ?body ?done ?stop
    case hI => exact OwnFrom.and (Own.from (boxed_own _ _ (fun s => .int .i64 (cmps s))) _) (ownFrom_below (Nat.le_refl _) (by omega))
    case assign =>
      intro l x W K hK
      gi_wp2
      exact hK
    case body =>
      rintro l pre x W ⟨h1, hbl⟩ hlt
      obtain ⟨⟨x, y⟩, hx, hy⟩ := x
      have c1 := h1.cell
      have f1 := h1.frozen
      dsimp only at hx hy
      have keep : ∀ (v : Value), Kept (fun k => k < W0.heap.size ∧ k ≠ w.heap.size) W (W.setCell ⟨w.heap.size, 0, none⟩ v) := fun v k hk => Below.heap_setCell _ _ _ _ hk.2
      by_cases h2 : x < y
      · gi_wp2
        refine ⟨KeepsOthers.setCell _ _ _, keep _, ?_, hbl.setCell (Nat.le_refl _) _⟩
        rw [cmps_snoc]
        have h3 := h1.set (.int .i64 (-1))
        unfold cmpD
        rw [if_pos h2]
        exact h3
      · by_cases h4 : y < x
        · gi_wp2
          refine ⟨KeepsOthers.setCell _ _ _, keep _, ?_, hbl.setCell (Nat.le_refl _) _⟩
          rw [cmps_snoc]
          have h3 := h1.set (.int .i64 1)
          unfold cmpD
          rw [if_neg h2, if_pos h4]
          exact h3
        · gi_wp2
          refine ⟨KeepsOthers.refl _, Kept.refl _ _, ?_, hbl⟩
          rw [cmps_snoc]
          unfold cmpD
          rw [if_neg h2, if_neg h4]
          exact h1
    case done =>
      rintro D xs W hD rfl ⟨h1, hbl⟩ hK
      rw [← HF.out] at h1
      have c1 := h1.cell
      gi_wp2
      refine ⟨by simp, .inl ⟨_, _, rfl, run_takeDeferred hK, ?_⟩⟩
      exact ⟨_, results_tmp rfl _ _ _, rfl, hbl.grown (grownBy_putObj' W D (.deferred none)) hbl.size (fun k e => by cases e; omega)⟩
    case stop =>
      rintro D c pre W _ _ h _
      exact h.elim
  · have hq : (((us.length : Int) - (vs.length : Int)) != 0) = true := by simp; omega
    have hfin : cmpW us vs = (us.length : Int) - (vs.length : Int) := by unfold cmpW; rw [if_neg hl]
    have HF := Lib.hid hfin
    clear hl hfin
    go_enter Try.func149, Try.ntmps149
    go_wp2
    go_ret
    exact ⟨ret_int HF.out.symm, Below.refl _ _⟩
end Go.Proofs.Ytnmmgegnioihmaa
namespace Go.Proofs.Ytnmmgegnioihmaa
open Go.RowKit

theorem madeCells_u32 (n : Nat) : (madeCells (Value.int .u32 0).cells (n * 1)).toList = (List.replicate n 0).map encW := by
  rw [Nat.mul_one]
  apply List.ext_getElem
  · simp [madeCells]
  · intro i h1 h2
    simp [madeCells, Value.cells, encW, Nat.mod_one]
/-- the words of a row of the call's own, at g -/
def Own32 (w0 w : World) (g n : Nat) (os : List Nat) : Prop := w.ownsRow w0.heap.size 101 1 (.slice (some ⟨g, 0, none⟩) n n) n (os.map encW) ∧ Below w0.heap.size w0 w ∧ w0.heap.size ≤ g
theorem Own32.cell {w0 w : World} {g n : Nat} {os : List Nat} (h : Own32 w0 w g n os) {j : Nat} (hj : j < os.length) : w.cell? ⟨g, j, none⟩ = some (.int .u32 ((os.getD j 0 : Nat) : Int)) := by
  have hl : os.length = n := by have := h.1.1; simpa using this
  rw [h.1.cellAt j (by omega), List.getElem?_map, List.getElem?_eq_getElem hj, List.getD_eq_getElem?_getD, List.getElem?_eq_getElem hj]
  rfl
theorem Own32.frozen {w0 w : World} {g n : Nat} {os : List Nat} (h : Own32 w0 w g n os) (j : Nat) : w.frozen? ⟨g, j, none⟩ = false := h.1.frozenAt j
theorem Own32.set {w0 w : World} {g n : Nat} {os : List Nat} (h : Own32 w0 w g n os) (j s : Nat) : Own32 w0 (w.setCell ⟨g, j, none⟩ (.int .u32 ((s : Int) % 4294967296))) g n (os.set j (s % 4294967296)) := by
  refine ⟨?_, h.2.1.setCell h.2.2 _, h.2.2⟩
  have h1 := (h.1.stored j (.int .u32 ((s : Int) % 4294967296))).1
  have e : (os.map encW).set j (.int .u32 ((s : Int) % 4294967296)) = (os.set j (s % 4294967296)).map encW := by rw [List.map_set]; simp [encW]
  rwa [e] at h1
theorem Own32.drew {w0 w : World} {g n : Nat} {os : List Nat} (h : Own32 w0 w g n os) : Own32 w0 w.drew g n os := ⟨h.1, h.2.1.drew, h.2.2⟩
theorem Own32.NW {w0 w : World} {g n : Nat} {os : List Nat} (h : Own32 w0 w g n os) (hr : Rng os) : NW w0.heap.size w (.slice (some ⟨g, 0, none⟩) n n) os := by
  obtain ⟨A, c, e, hl, hN⟩ := NRow.of_own h.1
  exact ⟨hr, A, c, e, hN⟩
theorem mul_wraps {x y o c : Nat} (hx : x < 4294967296) (hy : y < 4294967296) (ho : o < 4294967296) (hc : c < 4294967296) :
    IntKind.u64.wrap ((x : Int) * (y : Int)) = (x : Int) * (y : Int) ∧ IntKind.u64.wrap ((x : Int) * (y : Int) + (o : Int)) = (x : Int) * (y : Int) + (o : Int) ∧
      IntKind.u64.wrap ((c : Int) + ((x : Int) * (y : Int) + (o : Int))) = ((c + (x * y + o) : Nat) : Int) := by
  have h := mul_digit_lt hc hx hy ho
  have e : ((x * y : Nat) : Int) = (x : Int) * (y : Int) := by simp
  have h0 : x * y < 18446744073709551616 := by omega
  rw [← e]
  generalize x * y = p at *
  simp only [IntKind.wrap]; simp [IntKind.bits, IntKind.signed]
  refine ⟨?_, ?_, ?_⟩ <;> omega
set_option maxHeartbeats 2000000 in
theorem whole_mul_calls (va vb : Value) (us vs : List Nat) (w : World) (ha : IsW w va us) (hb : IsW w vb vs) (hlen : us.length + vs.length ≤ 35184372088832) :
    Calls Try.prog 144 #[va, vb] w fun e w' => ∃ os v, Hid (MulOut us vs us.length os) ∧ e = .returned v ∧ NW w.heap.size w' v os ∧ Below w.heap.size w w' := by
  obtain ⟨ru, A, ca, rfl, hra⟩ := ha
  obtain ⟨rv, B, cb, rfl, hrb⟩ := hb
  have hmx : us.length + vs.length ≤ 9223372036854775807 := by omega
  have HL := Lib.hid hlen
  clear hlen
  obtain ⟨i0, hi, hz0, hz1, hz2⟩ := info_parts info_u32
  go_enter Try.func144, Try.ntmps144
  go_wp2_with (at_make; refine wpList_make_full _ rfl _ _ 39 rfl w.heap.size 101 i0 (.int .u32 0) 1 und_words hi hz0 hz1 .i64 .i64 _ _ (us.length + vs.length) rfl rfl (by simp) (by simp) (by rw [hz2]; have := HL.out; omega) (by unfold maxLen; omega) (Nat.le_refl _) ?_; intro w1 hown hg)
  rw [madeCells_u32] at hown
  have hO : Own32 w w1 w.heap.size (us.length + vs.length) (List.replicate (us.length + vs.length) 0) := ⟨hown, (Below.refl _ _).grown hg (Nat.le_refl _) (fun k e => by cases e), Nat.le_refl _⟩
  clear hown hg hi hz0 hz1 hz2 i0
  go_loopw [19] (fun i wr => ∃ k : Nat, k ≤ us.length ∧ i = .int .i64 k ∧ ∃ os, Hid (MulOut us vs k os) ∧ Own32 w wr w.heap.size (us.length + vs.length) os) (fun i _ => us.length - (intOf i).toNat)
  case atStart => exact ⟨0, Nat.zero_le _, rfl, _, MulOut.start us vs, hO⟩
  case round =>
    obtain ⟨k, hk, rfl, os, HM, hos⟩ := hrel
    clear hO
    by_cases hlt : k < us.length
    · obtain ⟨ba, oa, rfl, hca⟩ := row_at (hra.below hos.2.1) hlt
      unfold encW at hca
      have hx := ru.getD k
      obtain ⟨x, hxe⟩ : ∃ x, x = us.getD k 0 := ⟨_, rfl⟩
      have HX := Lib.hid hxe
      rw [← hxe] at hx hca
      clear hxe
      go_wp2
      obtain ⟨wo, rfl⟩ : ∃ wo : World, wo = wr := ⟨_, rfl⟩
      go_loopw [8, 26] (fun c j wi => ∃ m cc : Nat, m ≤ vs.length ∧ j = .int .i64 m ∧ c = .int .u64 cc ∧ ∃ oi, Hid (MulIn os k x vs m oi cc) ∧ Own32 w wi w.heap.size (us.length + vs.length) oi) (fun _ j _ => vs.length - (intOf j).toNat)
      case atStart => exact ⟨0, 0, Nat.zero_le _, rfl, rfl, os, MulIn.start HM.out.rng _ _ _, hos⟩
      case round =>
        obtain ⟨m, cc, hm, rfl, rfl, oi, HI, hoi⟩ := hrel
        clear hos
        have hol : k + vs.length < oi.length := by have := HI.out.len; have := HM.out.len; omega
        by_cases hlm : m < vs.length
        · obtain ⟨bb, ob, rfl, hcb⟩ := row_at (hrb.below hoi.2.1) hlm
          unfold encW at hcb
          have hy := rv.getD m
          have ho := HI.out.rng.getD (k + m)
          have hco := hoi.cell (j := k + m) (by omega)
          have hfo := hoi.frozen (k + m)
          have hc := HI.out.lt
          have hst := HI.out.step hx rv hlm (by have := HM.out.len; omega)
          obtain ⟨y, hye⟩ : ∃ y, y = vs.getD m 0 := ⟨_, rfl⟩
          obtain ⟨o, hoe⟩ : ∃ o, o = oi.getD (k + m) 0 := ⟨_, rfl⟩
          rw [← hye, ← hoe] at hst
          rw [← hye] at hy hcb
          rw [← hoe] at ho hco
          clear hye hoe
          obtain ⟨e1, e2, e3⟩ := mul_wraps hx hy ho hc
          have HST := Lib.hid hst
          clear hst
          generalize cc + (x * y + o) = s at *
          have hin : k + m < us.length + vs.length := by omega
          go_wp2
          go_roundw
          case rel => exact ⟨m + 1, s / 4294967296, by omega, by simp, by simp, _, HST.out, hoi.set _ s⟩
          case measure => simp [intOf]; omega
        · obtain rfl : m = vs.length := by omega
          have hcell := hoi.cell (j := k + vs.length) hol
          have hfr := hoi.frozen (k + vs.length)
          have hin : k + vs.length < us.length + vs.length := by omega
          have hstep := HM.out.step hlt (by rw [← HX.out]; exact HI.out)
          have HST := Lib.hid hstep
          have hcc := HI.out.lt
          have hmod : cc % 4294967296 = cc := Nat.mod_eq_of_lt hcc
          have HC := Lib.hid hmod
          clear hstep hmod hcc
          generalize oi.getD (k + vs.length) 0 = o at *
          go_wp2
          go_roundw
          case rel => exact ⟨k + 1, by omega, by simp, _, by rw [← HC.out] at HST; exact HST, hoi.set _ cc⟩
          case measure => simp [intOf]; omega
    · obtain rfl : k = us.length := by omega
      go_wp2
      go_ret
      exact ⟨os, _, HM, rfl, hos.NW HM.out.rng, hos.2.1⟩
end Go.Proofs.Ytnmmgegnioihmaa
namespace Go.Proofs.Ytnmmgegnioihmaa
open Go.RowKit

theorem small_wraps {r u n : Nat} (hr : r < n) (hn : n ≤ 4294967296) (hu : u < 4294967296) : IntKind.u64.wrap ((r : Int) * 4294967296) = (r : Int) * 4294967296 ∧ IntKind.u64.wrap ((r : Int) * 4294967296 + (u : Int)) = ((r * 4294967296 + u : Nat) : Int) := by
  simp only [IntKind.wrap]; simp [IntKind.bits, IntKind.signed]
  refine ⟨?_, ?_⟩ <;> omega
theorem small_q {r u n : Nat} (hr : r < n) (hu : u < 4294967296) : IntKind.u64.wrap (((r * 4294967296 + u : Nat) : Int) / (n : Int)) = ((r * 4294967296 + u : Nat) : Int) / (n : Int) := by
  have h1 : (r * 4294967296 + u) / n < 4294967296 := by
    rw [Nat.div_lt_iff_lt_mul (by omega)]
    have : (r + 1) * 4294967296 ≤ n * 4294967296 := Nat.mul_le_mul_right _ hr
    rw [Nat.mul_comm 4294967296 n]
    omega
  generalize r * 4294967296 + u = s at *
  have e : (((s / n : Nat) : Nat) : Int) = (s : Int) / (n : Int) := by simp
  rw [← e]
  generalize s / n = q at *
  simp only [IntKind.wrap]; simp [IntKind.bits, IntKind.signed]
  omega
set_option maxHeartbeats 2000000 in
theorem whole_small_calls (va : Value) (us : List Nat) (n : Nat) (w : World) (ha : IsW w va us) (h0 : 0 < n) (hn : n ≤ 4294967296) (hlen : us.length ≤ 35184372088832) :
    Calls Try.prog 159 #[va, .int .u64 (n : Int)] w fun e w' => ∃ qs v, Hid (qs = wordsOf (val us / n)) ∧ e = .returned (.tuple #[v, .int .u64 ((val us % n : Nat) : Int)]) ∧ NW w.heap.size w' v qs ∧ Below w.heap.size w w' := by
  obtain ⟨ru, A, ca, rfl, hra⟩ := ha
  have hmx : us.length ≤ 9223372036854775807 := by omega
  have HL := Lib.hid hlen
  have HNn := Lib.hid hn
  clear hlen
  obtain ⟨i0, hi, hz0, hz1, hz2⟩ := info_parts info_u32
  go_enter Try.func159, Try.ntmps159
  go_wp2_with (at_make; refine wpList_make_full _ rfl _ _ 39 rfl w.heap.size 101 i0 (.int .u32 0) 1 und_words hi hz0 hz1 .i64 .i64 _ _ us.length rfl rfl rfl rfl (by rw [hz2]; have := HL.out; omega) (by unfold maxLen; omega) (Nat.le_refl _) ?_; intro w1 hown hg)
  rw [madeCells_u32] at hown
  have hO : Own32 w w1 w.heap.size us.length (List.replicate us.length 0) := ⟨hown, (Below.refl _ _).grown hg (Nat.le_refl _) (fun k e => by cases e), Nat.le_refl _⟩
  clear hown hg hi hz0 hz1 hz2 i0
  go_loopw [5, 13] (fun r i wr => ∃ k rr : Nat, k ≤ us.length ∧ i = .int .i64 k ∧ r = .int .u64 rr ∧ ∃ qs, Hid (Small us n k qs rr) ∧ Own32 w wr w.heap.size us.length qs) (fun _ i _ => us.length - (intOf i).toNat)
  case atStart => exact ⟨0, 0, Nat.zero_le _, rfl, rfl, _, Small.start us h0, hO⟩
  case round =>
    obtain ⟨k, rr, hk, rfl, rfl, qs, HS, hqs⟩ := hrel
    clear hO
    by_cases hlt : k < us.length
    · obtain ⟨j, hj⟩ : ∃ j, j = us.length - 1 - k := ⟨_, rfl⟩
      have hj1 : j < us.length := by omega
      have hj2 : (us.length : Int) - 1 - (k : Int) = (j : Int) := by omega
      obtain ⟨ba, oa, rfl, hca⟩ := row_at (hra.below hqs.2.1) hj1
      unfold encW at hca
      have hst := HS.out.step ru hlt
      rw [← hj] at hst
      have hu := ru.getD j
      have hcell := hqs.cell (j := j) (by rw [HS.out.len]; exact hj1)
      have hfr := hqs.frozen j
      have hrr := HS.out.lt
      generalize us.getD j 0 = u at *
      generalize qs.getD j 0 = o at *
      obtain ⟨e1, e2⟩ := small_wraps hrr hn hu
      have e3 := small_q hrr hu
      have HST := Lib.hid hst
      have HJ := Lib.hid hj
      clear hst hj
      generalize rr * 4294967296 + u = s at *
      go_wp2
      go_region
      all_goals go_wp2
      go_roundw
      case rel => exact ⟨k + 1, s % n, by omega, by simp, by simp, _, HST.out, by simpa using (hqs.set j (s / n)).drew⟩
      case measure => simp [intOf]; omega
    · obtain rfl : k = us.length := by omega
      have hl : qs.length = us.length := HS.out.len
      have hW := hqs.NW HS.out.rng
      obtain ⟨rq, A', c', e, hN⟩ := hW
      rw [hl] at e
      injection e with e1 e2 e3
      subst e1; subst e3
      have ht := trim_at _ _ _ _ hN.toRow
      rw [hl] at ht
      have hr : ((rr : Nat) : Int) = ((val us % n : Nat) : Int) := by rw [HS.out.rem]
      have hq : trim qs = wordsOf (val us / n) := by rw [trim_eq rq, HS.out.quot]
      have HR := Lib.hid hr
      have HQ := Lib.hid hq
      clear hl hr hq e2
      go_wp2_with (go_at_call 145; refine ht.mono ?_; rintro e w' ⟨rfl, rfl⟩)
      go_ret2
      refine ⟨trim qs, _, HQ.out, by rw [HR.out]; rfl, ?_, hqs.2.1⟩
      obtain ⟨k, hk, e⟩ := trim_prefix qs
      exact ⟨by rw [e]; exact rq.take k, _, _, rfl, by rw [e]; exact hN.take k⟩
end Go.Proofs.Ytnmmgegnioihmaa
namespace Go.Proofs.Ytnmmgegnioihmaa
open Go.RowKit

theorem Own32.below {w0 w w' : World} {g n : Nat} {os : List Nat} (h : Own32 w0 w g n os) (hb : Below w.heap.size w w') : Own32 w0 w' g n os := by
  have hg : g < w.heap.size := (h.1.lt g rfl).2
  refine ⟨h.1.kept (row := none) ⟨hb.os, hb.tape, hb.output, hb.size, fun k hk _ => hb.block k hk⟩ (.inr (by simp [Value.ownBlock])), ?_, h.2.2⟩
  exact h.2.1.trans (hb.mono h.2.1.size)
theorem bl_grow {w w1 w1' w2 : World} {v : Value} {B : Nat} (h : Below w.heap.size w w1) (hB : w.heap.size + B ≤ w1.heap.size) (h1 : Below w1.heap.size w1 w1') (hg : w1'.grownBy w2 v.ownBlock) (hv : v.ownBlock = some w1.heap.size ∨ v.ownBlock = none := by simp [Value.ownBlock]) : Below w.heap.size w w2 := by
  refine ((bl_trans h h1)).grown hg (by have := h.size; have := h1.size; omega) (fun k e => ?_)
  rcases hv with hv | hv <;> rw [hv] at e
  · cases e; have := h.size; omega
  · cases e
theorem Own32.grown {w w1 w1' w2 : World} {g n : Nat} {os : List Nat} {v : Value} (h : Own32 w w1 g n os) (hs : w.heap.size + 1 ≤ w1.heap.size) (h1 : Below w1.heap.size w1 w1') (hg : w1'.grownBy w2 v.ownBlock) (hv : v.ownBlock = some w1.heap.size ∨ v.ownBlock = none := by simp [Value.ownBlock]) : Own32 w w2 g n os := by
  have hgl : g < w1.heap.size := (h.1.lt g rfl).2
  have hb : Below w1.heap.size w1 w2 := h1.grown hg h1.size (fun k e => by
    rcases hv with hv | hv <;> rw [hv] at e
    · cases e; exact Nat.le_refl _
    · cases e)
  refine ⟨h.1.kept (row := none) ⟨hb.os, hb.tape, hb.output, hb.size, fun k hk _ => hb.block k hk⟩ (.inr (by simp [Value.ownBlock])), ?_, h.2.2⟩
  exact bl_grow h.2.1 hs h1 hg hv
theorem NW.trim {n0 : Nat} {w : World} {A : Option Addr} {c n : Nat} {xs : List Nat} (h : NW n0 w (.slice A n c) xs) : NW n0 w (.slice A (trim xs).length c) (trim xs) := by
  obtain ⟨hr, A', c', e, hN⟩ := h
  injection e with e1 e2 e3
  subst e1; subst e3
  obtain ⟨k, hk, e⟩ := trim_prefix xs
  exact ⟨by rw [e]; exact hr.take k, _, _, rfl, by rw [e]; exact hN.take k⟩
/-- trim, of whatever slice value holds the words -/
theorem trim_calls {w : World} {v : Value} {xs : List Nat} (h : IsW w v xs) : Calls Try.prog 145 #[v] w fun e w' => ∃ v', e = .returned v' ∧ w = w' ∧ IsW w v' (trim xs) ∧ ∀ n0, NW n0 w v xs → NW n0 w v' (trim xs) := by
  obtain ⟨hr, A, c, rfl, hrow⟩ := h
  refine (trim_at A c xs w hrow).mono fun e w' ⟨he, hw⟩ => ⟨_, he, hw, ?_, fun n0 hN => hN.trim⟩
  obtain ⟨k, hk, e⟩ := trim_prefix xs
  exact ⟨by rw [e]; exact hr.take k, A, c, rfl, by rw [e]; exact hrow.take k⟩
theorem NRow.none_nil {α : Type} {enc : α → Value} {n0 : Nat} {w : World} {c : Nat} {xs : List α} (h : NRow enc n0 w none c xs) : xs = [] := h.toRow.none_nil.1
theorem lit1_N (w : World) (T : TypeId) {x : Nat} (hx : x < 4294967296) : NW w.heap.size (w.alloc (.cells #[.int .u32 (x : Int)] T)) (.slice (some ⟨w.heap.size, 0, none⟩) 1 1) [x] :=
  ⟨Rng.cons hx Rng.nil, _, _, rfl, NRow.new (heap_alloc_new w _) (Nat.le_refl _) (by unfold maxLen; omega) (by simp) (fun j y hj => by cases j with
    | zero => simp at hj; subst hj; rfl
    | succ j => simp at hj)⟩
theorem lit1_W (w : World) (T : TypeId) {x : Nat} (hx : x < 4294967296) : IsW (w.alloc (.cells #[.int .u32 (x : Int)] T)) (.slice (some ⟨w.heap.size, 0, none⟩) 1 1) [x] := (lit1_N w T hx).is
theorem lit1_at {w : World} {n : Nat} (hn : n = w.heap.size) (T : TypeId) {x : Nat} (hx : x < 4294967296) : IsW (w.alloc (.cells #[.int .u32 (x : Int)] T)) (.slice (some ⟨n, 0, none⟩) 1 1) [x] := by
  subst hn; exact lit1_W w T hx
theorem NRow.is_W {n0 : Nat} {w : World} {A : Option Addr} {c : Nat} {xs : List Nat} (h : NRow encW n0 w A c xs) (hr : Rng xs) : IsW w (.slice A xs.length c) xs := ⟨hr, A, c, rfl, h.toRow⟩
theorem Own32.put {w0 w : World} {g n : Nat} {os : List Nat} (h : Own32 w0 w g n os) (j : Nat) {s : Nat} (hs : s < 4294967296) : Own32 w0 (w.setCell ⟨g, j, none⟩ (.int .u32 (s : Int))) g n (os.set j s) := by
  have h1 := h.set j s
  rw [Nat.mod_eq_of_lt hs] at h1
  have e : ((s : Int) % 4294967296) = (s : Int) := by omega
  rw [e] at h1
  exact h1
theorem divsub_len {us vs os : List Nat} {T V lo : Nat} (HL : Hid (us.length + vs.length + 4 ≤ 35184372088832)) (HM : Hid (MulOut vs [lo] vs.length os)) (rT : Rng (wordsOf T)) (HV : Hid (V = val vs)) (rv : Rng vs) (HD : Hid (T / V < 4294967296 ∧ T < V * 4294967296)) :
    max (wordsOf T).length (trim os).length + 2 ≤ 35184372088832 := by
  have h1 := trim_len os
  have h2 := HM.out.len
  simp only [List.length_cons, List.length_nil] at h2
  have h3 : T ≤ val (0 :: vs) := by
    have := HD.out.2
    rw [val_cons, ← HV.out, Nat.mul_comm 4294967296 V]; omega
  have h4 := wordsOf_len_mono h3
  have h5 : (wordsOf (val (0 :: vs))).length ≤ vs.length + 1 := by rw [← trim_eq (Rng.cons (by omega) rv)]; exact trim_len _
  have := HL.out
  omega
set_option maxRecDepth 100000 in
set_option maxHeartbeats 1000000 in
theorem whole_div_long (va vb : Value) (us vs : List Nat) (w : World) (ha : IsW w va us) (hb : IsW w vb vs) (tv : trim vs = vs) (h1 : vs.length ≠ 1) (hv0 : vs ≠ []) (hlen : us.length + vs.length + 4 ≤ 35184372088832) :
    Calls Try.prog 170 #[va, vb] w fun e w' => ∃ qs rs v1 v2, Hid (qs = wordsOf (val us / val vs)) ∧ Hid (rs = wordsOf (val us % val vs)) ∧ e = .returned (.tuple #[v1, v2]) ∧ NW w.heap.size w' v1 qs ∧ NW w.heap.size w' v2 rs ∧ Below w.heap.size w w' := by
  have hbW := hb
  obtain ⟨ru, A, ca, rfl, hra⟩ := ha
  obtain ⟨rv, B, cb, rfl, hrb⟩ := hb
  have hmx : us.length ≤ 9223372036854775807 := by omega
  have hmv : vs.length ≤ 9223372036854775807 := by omega
  have hb1 : (((vs.length : Nat) : Int) == 1) = false := by rw [beq_eq_false_iff_ne]; omega
  have hV : 0 < val vs := by
    rcases Nat.eq_zero_or_pos (val vs) with h | h
    · exact absurd (by rw [← tv, trim_eq rv, h, wordsOf_zero]) hv0
    · exact h
  have HL := Lib.hid hlen
  have HT := Lib.hid tv
  clear hlen h1 hv0 tv
  obtain ⟨V, hVe⟩ : ∃ V, V = val vs := ⟨_, rfl⟩
  have HV := Lib.hid hVe
  rw [← hVe] at hV
  clear hVe
  obtain ⟨i0, hi, hz0, hz1, hz2⟩ := info_parts info_u32
  go_enter Try.func170, Try.ntmps170
  go_wp2_with (at_make; refine wpList_make_full _ rfl _ _ 39 rfl w.heap.size 101 i0 (.int .u32 0) 1 und_words hi hz0 hz1 .i64 .i64 _ _ us.length rfl rfl rfl rfl (by rw [hz2]; have := HL.out; omega) (by unfold maxLen; omega) (Nat.le_refl _) ?_; intro w1 hown hg)
  rw [madeCells_u32] at hown
  have hO : Own32 w w1 w.heap.size us.length (List.replicate us.length 0) := ⟨hown, (Below.refl _ _).grown hg (Nat.le_refl _) (fun k e => by cases e), Nat.le_refl _⟩
  clear hown hg
  go_loopw [5, 35] (fun r i wr => ∃ k R : Nat, k ≤ us.length ∧ i = .int .i64 k ∧ ∃ qs, Hid (Small us V k qs R) ∧ Own32 w wr w.heap.size us.length qs ∧ NW (w.heap.size + 1) wr r (wordsOf R)) (fun _ i _ => us.length - (intOf i).toNat)
  case atStart => exact ⟨0, 0, Nat.zero_le _, rfl, _, Small.start us hV, hO, by rw [wordsOf_zero]; exact ⟨Rng.nil, none, 0, rfl, NRow.nil _ _ _⟩⟩
  case round =>
    obtain ⟨k, R, hk, rfl, qs, HS, hqs, rr, Ar, cr, rfl, hNr⟩ := hrel
    clear hO
    by_cases hlt : k < us.length
    · obtain ⟨j, hj⟩ : ∃ j, j = us.length - 1 - k := ⟨_, rfl⟩
      have hj1 : j < us.length := by omega
      have hj2 : (us.length : Int) - 1 - (k : Int) = (j : Int) := by omega
      obtain ⟨ba, oa, rfl, hca⟩ := row_at (hra.below hqs.2.1) hj1
      unfold encW at hca
      have hst := HS.out.step ru hlt
      rw [← hj] at hst
      have hu := ru.getD j
      have hdig := HS.out.digit hu
      generalize us.getD j 0 = u at *
      have hRl : (wordsOf R).length ≤ vs.length := by
        have h1 : R ≤ val vs := by rw [← HV.out]; exact Nat.le_of_lt HS.out.lt
        have h2 := wordsOf_len_mono h1
        rw [← trim_eq rv] at h2
        exact Nat.le_trans h2 (trim_len vs)
      have hlenR : 1 + (wordsOf R).length ≤ 35184372088832 := by have := HL.out; omega
      have HLR := Lib.hid hlenR
      have htr : trim ([u] ++ wordsOf R) = wordsOf (R * 4294967296 + u) := by
        rw [trim_eq (Rng.append (Rng.cons hu Rng.nil) rr)]
        congr 1
        rw [List.singleton_append, val_cons, val_wordsOf]; omega
      have HTR := Lib.hid htr
      have HST := Lib.hid hst
      have HJ := Lib.hid hj
      have HD := Lib.hid hdig
      have hgs : w.heap.size + 1 ≤ wr.heap.size := (hqs.1.lt _ rfl).2
      clear hst hj htr hdig hlenR hRl
      go_wp2_with (first
        | (at_builtin; refine append_row (enc := encW) (fun _ => rfl) rfl _ _ 39 rfl (w.heap.size + 1) 101 i0 (.int .u32 0) 4 und_words hi hz0 hz1 hz2 rfl (.slice (some ⟨wr.heap.size, 0, none⟩) 1 1) 1 ([u].map encW) rfl (World.ownsRow_lit wr #[.int .u32 (u : Int)] 1 hgs (by unfold maxLen; omega) (by simp)) Ar cr (wordsOf R) (hNr.toRow.below (bl_alloc _ _)) rfl (by have := HLR.out; unfold maxLen; omega) (by have := HLR.out; omega) (by simp; omega) ?_; intro v2 w2 hown2 hg2))
      have hb2 : Below w.heap.size w w2 := bl_grow hqs.2.1 hgs (bl_alloc _ _) hg2
      have hO2 : Own32 w w2 w.heap.size us.length qs := hqs.grown hgs (bl_alloc _ _) hg2
      obtain ⟨A2, c2, rfl, hl2, hN2⟩ := NRow.of_own (xs := [u] ++ wordsOf R) (by rw [List.map_append]; exact hown2)
      have hW2 : NW (w.heap.size + 1) w2 (.slice A2 ([u] ++ wordsOf R).length c2) ([u] ++ wordsOf R) := ⟨Rng.append (Rng.cons hu Rng.nil) rr, A2, c2, rfl, hN2⟩
      refine (trim_calls hW2.is).mono ?_
      rintro e w' ⟨v', rfl, rfl, hI', hN'⟩
      replace hN' := hN' _ hW2
      rw [HTR.out] at hN'
      clear hown2 hl2 hN2 hI' hW2 hqs hg2 hgs
      generalize R * 4294967296 + u = T at *
      obtain ⟨rT, AT, cT, rfl, hNT⟩ := hN'
      have hh0 : Half T V 0 4294967296 := ⟨by simp, HD.out.2⟩
      have hh1 : ((wordsOf T).length : Int) < (vs.length : Int) → Half T V 0 1 := fun h => ⟨by simp, by
        have := len_lt_val rT HT.out (Int.ofNat_lt.1 h)
        rw [val_wordsOf, ← HV.out] at this
        simpa using this⟩
      have HH0 := Lib.hid hh0
      have HH1 := Lib.hid hh1
      clear hh0 hh1
      by_cases hTl : ((wordsOf T).length : Int) < (vs.length : Int)
--<<
      · go_wp2
        obtain ⟨wo, rfl⟩ : ∃ wo : World, wo = w2 := ⟨_, rfl⟩
        go_loopw [10, 11] (fun lo hi wi => ∃ l h : Nat, lo = .int .u64 l ∧ hi = .int .u64 h ∧ Hid (Half T V l h) ∧ h ≤ 4294967296 ∧ Below wo.heap.size wo wi) (fun lo hi _ => (intOf hi).toNat - (intOf lo).toNat)
        case atStart => exact ⟨0, 1, rfl, rfl, HH1.out hTl, by omega, Below.refl _ _⟩
        case round =>
          obtain ⟨lo, hi', rfl, rfl, HH, hhi, hbi⟩ := hrel
          have hle := HH.out.le
          obtain ⟨d, hd⟩ : ∃ d, d = hi' - lo := ⟨_, rfl⟩
          have e1 : IntKind.u64.wrap ((hi' : Int) - (lo : Int)) = (d : Int) := by simp only [IntKind.wrap]; simp [IntKind.bits, IntKind.signed]; omega
          by_cases hgt : (1 : Int) < (d : Int)
          · obtain ⟨mid, hmid⟩ : ∃ mid, mid = (lo + hi') / 2 := ⟨_, rfl⟩
            have hm1 : lo < mid ∧ mid < hi' := by omega
            have e2 : IntKind.u64.wrap ((lo : Int) + (hi' : Int)) = (lo : Int) + (hi' : Int) := by simp only [IntKind.wrap]; simp [IntKind.bits, IntKind.signed]; omega
            have e3 : ((lo : Int) + (hi' : Int)) / 2 = (mid : Int) := by omega
            have e5 : IntKind.u64.wrap (mid : Int) = (mid : Int) := by simp only [IntKind.wrap]; simp [IntKind.bits, IntKind.signed]; omega
            have e4 : IntKind.u32.wrap (mid : Int) = (mid : Int) := by simp only [IntKind.wrap]; simp [IntKind.bits, IntKind.signed]; omega
            have hlenm : vs.length + [mid].length ≤ 35184372088832 := by have := HL.out; simp; omega
            have hmidr : mid < 4294967296 := by omega
            have HBw := (hb2.trans (hbi.mono hb2.size))
            clear hmid
            go_wp2_with (first
              | (go_at_call 144; refine (whole_mul_calls _ _ vs [mid] _ ((hbW.below HBw).below (bl_alloc _ _)) (lit1_W _ _ hmidr) hlenm).mono ?_; rintro e w' ⟨os, v, HMO, rfl, hNm, hbm⟩)
              | (go_at_call 145; refine (trim_calls hNm.is).mono ?_; rintro e w' ⟨v', rfl, rfl, hIm, hNt⟩)
              | (go_at_call 149; refine (whole_cmp_calls _ _ _ _ _ hIm (((hNT.is_W rT).below hbi).below ((bl_trans (bl_alloc _ _) hbm)))).mono ?_; rintro e w' ⟨rfl, hbc⟩; by_cases hcm : cmpW (trim os) (wordsOf T) ≤ 0))
            all_goals
              have hBI : Below wo.heap.size wo w' := bl_trans (bl_trans hbi (bl_trans (bl_alloc _ _) hbm)) hbc
              have hto : trim os = wordsOf (V * mid) := by rw [trim_eq HMO.out.rng, HMO.out.final, ← HV.out]; simp [val]
              have hcs := cmpW_nonpos (rng_wordsOf (V * mid)) rT (trim_words _) (trim_words _)
              rw [val_wordsOf, val_wordsOf] at hcs
              rw [hto] at hcm
            all_goals go_roundw
            case rel => exact ⟨mid, hi', rfl, rfl, ⟨hcs.1 hcm, HH.out.high⟩, hhi, hBI⟩
            case measure => simp [intOf]; omega
            case rel => exact ⟨lo, mid, rfl, rfl, ⟨HH.out.low, Nat.lt_of_not_le fun h => absurd (hcs.2 h) (by omega)⟩, by omega, hBI⟩
            case measure => simp [intOf]; omega
          · have hlo : lo = T / V := HH.out.final (by omega)
            have hlor : lo < 4294967296 := by have := HD.out.1; omega
            have e4 : IntKind.u32.wrap (lo : Int) = (lo : Int) := by simp only [IntKind.wrap]; simp [IntKind.bits, IntKind.signed]; omega
            have hqj : j < qs.length := by rw [HS.out.len]; exact hj1
            have hO3 := hO2.below hbi
            have hcell := hO3.cell hqj
            have hfr := hO3.frozen j
            generalize qs.getD j 0 = o at *
            have hlenm : vs.length + [lo].length ≤ 35184372088832 := by have := HL.out; simp; omega
            have HBw := (hb2.trans (hbi.mono hb2.size))
            have hNT' := hNT.below hbi
            have hbs : Below w.heap.size w (wr.setCell ⟨w.heap.size, j, none⟩ (.int .u32 (lo : Int))) := HBw.setCell (p := ⟨w.heap.size, j, none⟩) (Nat.le_refl _) _
            have hTs := (hNT'.setCell (p := ⟨w.heap.size, j, none⟩) (Nat.lt_succ_self _) (.int .u32 (lo : Int))).is_W rT
            have hOs := hO3.put j hlor
            generalize hWs : World.setCell wr ⟨w.heap.size, j, none⟩ (.int .u32 (lo : Int)) = Ws at hbs hTs hOs
            have HWs := Lib.hid hWs
            have hsz2 : wr.heap.size = Ws.heap.size := by rw [← hWs]; simp [World.setCell]
            clear hWs
            have hVW := hbW.below hbs
            have HLO := Lib.hid hlo
            have hsz : w.heap.size + 1 ≤ Ws.heap.size := (hOs.1.lt _ rfl).2
            clear hlo hd HH hle hNT' hO3 hhi
            go_wp2_with (first
              | (go_at_call 144; rw [HWs.out]; refine (whole_mul_calls _ _ vs [lo] _ (hVW.below (bl_alloc _ _)) (lit1_W _ _ hlor) hlenm).mono ?_; rintro e w' ⟨os, v, HMO, rfl, hNm, hbm⟩)
              | (go_at_call 145; refine (trim_calls hNy.is).mono ?_; rintro e w' ⟨v', rfl, rfl, hIy, hNz⟩)
              | (go_at_call 145; refine (trim_calls hNm.is).mono ?_; rintro e w' ⟨v', rfl, rfl, hIm, hNt⟩)
              | (go_at_call 150; refine (whole_sub_calls _ _ _ _ _ (hTs.below (bl_trans (bl_alloc _ _) hbm)) hIm (divsub_len HL HMO rT HV rv HD)).mono ?_; rintro e w' ⟨ys, vy, HY, rfl, hNy, hby⟩))
            have hb9 : Below Ws.heap.size Ws _ := bl_trans (bl_alloc _ _) hbm
            have hto : trim os = wordsOf (V * lo) := by rw [trim_eq HMO.out.rng, HMO.out.final, ← HV.out]; simp [val]
            have hys : trim ys = wordsOf (T % V) := by
              rw [HY.out, hto, trim_eq (subW_rng _ _), subW_val rT (rng_wordsOf _) (by rw [val_wordsOf, val_wordsOf, HLO.out]; exact Nat.mul_div_le _ _), val_wordsOf, val_wordsOf, HLO.out]
              congr 1
              have := Nat.div_add_mod T V
              omega
            have hNf := hNz _ (hNy.mono (Nat.le_trans hsz hb9.size))
            rw [hys] at hNf
            go_roundw
            case rel => exact ⟨k + 1, T % V, by omega, by simp, qs.set j lo, by have := HST.out; rw [← HLO.out, Nat.mod_eq_of_lt hlor] at this; exact this, hOs.below (bl_trans hb9 hby), hNf⟩
            case measure => simp [intOf]; omega
      · have hTd : decide ((wordsOf T).length < vs.length) = false := by simpa using hTl
        go_wp2
        obtain ⟨wo, rfl⟩ : ∃ wo : World, wo = w2 := ⟨_, rfl⟩
        go_loopw [10, 11] (fun lo hi wi => ∃ l h : Nat, lo = .int .u64 l ∧ hi = .int .u64 h ∧ Hid (Half T V l h) ∧ h ≤ 4294967296 ∧ Below wo.heap.size wo wi) (fun lo hi _ => (intOf hi).toNat - (intOf lo).toNat)
        case atStart => exact ⟨0, 4294967296, rfl, rfl, HH0.out, Nat.le_refl _, Below.refl _ _⟩
        case round =>
          obtain ⟨lo, hi', rfl, rfl, HH, hhi, hbi⟩ := hrel
          have hle := HH.out.le
          obtain ⟨d, hd⟩ : ∃ d, d = hi' - lo := ⟨_, rfl⟩
          have e1 : IntKind.u64.wrap ((hi' : Int) - (lo : Int)) = (d : Int) := by simp only [IntKind.wrap]; simp [IntKind.bits, IntKind.signed]; omega
          by_cases hgt : (1 : Int) < (d : Int)
          · obtain ⟨mid, hmid⟩ : ∃ mid, mid = (lo + hi') / 2 := ⟨_, rfl⟩
            have hm1 : lo < mid ∧ mid < hi' := by omega
            have e2 : IntKind.u64.wrap ((lo : Int) + (hi' : Int)) = (lo : Int) + (hi' : Int) := by simp only [IntKind.wrap]; simp [IntKind.bits, IntKind.signed]; omega
            have e3 : ((lo : Int) + (hi' : Int)) / 2 = (mid : Int) := by omega
            have e5 : IntKind.u64.wrap (mid : Int) = (mid : Int) := by simp only [IntKind.wrap]; simp [IntKind.bits, IntKind.signed]; omega
            have e4 : IntKind.u32.wrap (mid : Int) = (mid : Int) := by simp only [IntKind.wrap]; simp [IntKind.bits, IntKind.signed]; omega
            have hlenm : vs.length + [mid].length ≤ 35184372088832 := by have := HL.out; simp; omega
            have hmidr : mid < 4294967296 := by omega
            have HBw := (hb2.trans (hbi.mono hb2.size))
            clear hmid
            go_wp2_with (first
              | (go_at_call 144; refine (whole_mul_calls _ _ vs [mid] _ ((hbW.below HBw).below (bl_alloc _ _)) (lit1_W _ _ hmidr) hlenm).mono ?_; rintro e w' ⟨os, v, HMO, rfl, hNm, hbm⟩)
              | (go_at_call 145; refine (trim_calls hNm.is).mono ?_; rintro e w' ⟨v', rfl, rfl, hIm, hNt⟩)
              | (go_at_call 149; refine (whole_cmp_calls _ _ _ _ _ hIm (((hNT.is_W rT).below hbi).below ((bl_trans (bl_alloc _ _) hbm)))).mono ?_; rintro e w' ⟨rfl, hbc⟩; by_cases hcm : cmpW (trim os) (wordsOf T) ≤ 0))
            all_goals
              have hBI : Below wo.heap.size wo w' := bl_trans (bl_trans hbi (bl_trans (bl_alloc _ _) hbm)) hbc
              have hto : trim os = wordsOf (V * mid) := by rw [trim_eq HMO.out.rng, HMO.out.final, ← HV.out]; simp [val]
              have hcs := cmpW_nonpos (rng_wordsOf (V * mid)) rT (trim_words _) (trim_words _)
              rw [val_wordsOf, val_wordsOf] at hcs
              rw [hto] at hcm
            all_goals go_roundw
            case rel => exact ⟨mid, hi', rfl, rfl, ⟨hcs.1 hcm, HH.out.high⟩, hhi, hBI⟩
            case measure => simp [intOf]; omega
            case rel => exact ⟨lo, mid, rfl, rfl, ⟨HH.out.low, Nat.lt_of_not_le fun h => absurd (hcs.2 h) (by omega)⟩, by omega, hBI⟩
            case measure => simp [intOf]; omega
          · have hlo : lo = T / V := HH.out.final (by omega)
            have hlor : lo < 4294967296 := by have := HD.out.1; omega
            have e4 : IntKind.u32.wrap (lo : Int) = (lo : Int) := by simp only [IntKind.wrap]; simp [IntKind.bits, IntKind.signed]; omega
            have hqj : j < qs.length := by rw [HS.out.len]; exact hj1
            have hO3 := hO2.below hbi
            have hcell := hO3.cell hqj
            have hfr := hO3.frozen j
            generalize qs.getD j 0 = o at *
            have hlenm : vs.length + [lo].length ≤ 35184372088832 := by have := HL.out; simp; omega
            have HBw := (hb2.trans (hbi.mono hb2.size))
            have hNT' := hNT.below hbi
            have hbs : Below w.heap.size w (wr.setCell ⟨w.heap.size, j, none⟩ (.int .u32 (lo : Int))) := HBw.setCell (p := ⟨w.heap.size, j, none⟩) (Nat.le_refl _) _
            have hTs := (hNT'.setCell (p := ⟨w.heap.size, j, none⟩) (Nat.lt_succ_self _) (.int .u32 (lo : Int))).is_W rT
            have hOs := hO3.put j hlor
            generalize hWs : World.setCell wr ⟨w.heap.size, j, none⟩ (.int .u32 (lo : Int)) = Ws at hbs hTs hOs
            have HWs := Lib.hid hWs
            have hsz2 : wr.heap.size = Ws.heap.size := by rw [← hWs]; simp [World.setCell]
            clear hWs
            have hVW := hbW.below hbs
            have HLO := Lib.hid hlo
            have hsz : w.heap.size + 1 ≤ Ws.heap.size := (hOs.1.lt _ rfl).2
            clear hlo hd HH hle hNT' hO3 hhi
            go_wp2_with (first
              | (go_at_call 144; rw [HWs.out]; refine (whole_mul_calls _ _ vs [lo] _ (hVW.below (bl_alloc _ _)) (lit1_W _ _ hlor) hlenm).mono ?_; rintro e w' ⟨os, v, HMO, rfl, hNm, hbm⟩)
              | (go_at_call 145; refine (trim_calls hNy.is).mono ?_; rintro e w' ⟨v', rfl, rfl, hIy, hNz⟩)
              | (go_at_call 145; refine (trim_calls hNm.is).mono ?_; rintro e w' ⟨v', rfl, rfl, hIm, hNt⟩)
              | (go_at_call 150; refine (whole_sub_calls _ _ _ _ _ (hTs.below (bl_trans (bl_alloc _ _) hbm)) hIm (divsub_len HL HMO rT HV rv HD)).mono ?_; rintro e w' ⟨ys, vy, HY, rfl, hNy, hby⟩))
            have hb9 : Below Ws.heap.size Ws _ := bl_trans (bl_alloc _ _) hbm
            have hto : trim os = wordsOf (V * lo) := by rw [trim_eq HMO.out.rng, HMO.out.final, ← HV.out]; simp [val]
            have hys : trim ys = wordsOf (T % V) := by
              rw [HY.out, hto, trim_eq (subW_rng _ _), subW_val rT (rng_wordsOf _) (by rw [val_wordsOf, val_wordsOf, HLO.out]; exact Nat.mul_div_le _ _), val_wordsOf, val_wordsOf, HLO.out]
              congr 1
              have := Nat.div_add_mod T V
              omega
            have hNf := hNz _ (hNy.mono (Nat.le_trans hsz hb9.size))
            rw [hys] at hNf
            go_roundw
            case rel => exact ⟨k + 1, T % V, by omega, by simp, qs.set j lo, by have := HST.out; rw [← HLO.out, Nat.mod_eq_of_lt hlor] at this; exact this, hOs.below (bl_trans hb9 hby), hNf⟩
            case measure => simp [intOf]; omega
-->>
    · obtain rfl : k = us.length := by omega
      have hl : qs.length = us.length := HS.out.len
      have hWq := hqs.NW HS.out.rng
      have hq : trim qs = wordsOf (val us / val vs) := by rw [trim_eq HS.out.rng, HS.out.quot, HV.out]
      have hr2 : wordsOf R = wordsOf (val us % val vs) := by rw [HS.out.rem, HV.out]
      have HQ := Lib.hid hq
      have HR := Lib.hid hr2
      rw [← hl] at hWq
      have HLn := Lib.hid hl
      have ht := trim_calls hWq.is
      rw [hl] at ht
      clear hq hr2 hl
      go_wp2_with (go_at_call 145; refine ht.mono ?_; rintro e w' ⟨v', rfl, rfl, hIm, hNt⟩)
      go_ret2
      exact ⟨trim qs, wordsOf R, _, _, HQ.out, HR.out, rfl, hNt _ (by rw [HLn.out] at hWq; exact hWq), ⟨rr, Ar, cr, rfl, hNr.mono (Nat.le_succ _)⟩, hqs.2.1⟩
theorem val_single (u : Nat) : val [u] = u := by simp [val]
set_option maxHeartbeats 1000000 in
theorem whole_div_calls (va vb : Value) (us vs : List Nat) (w : World) (ha : IsW w va us) (hb : IsW w vb vs) (tv : trim vs = vs) (hv0 : vs ≠ []) (hlen : us.length + vs.length + 4 ≤ 35184372088832) :
    Calls Try.prog 170 #[va, vb] w fun e w' => ∃ qs rs v1 v2, Hid (qs = wordsOf (val us / val vs)) ∧ Hid (rs = wordsOf (val us % val vs)) ∧ e = .returned (.tuple #[v1, v2]) ∧ NW w.heap.size w' v1 qs ∧ NW w.heap.size w' v2 rs ∧ Below w.heap.size w w' := by
  by_cases h1 : vs.length = 1
  · match vs, h1 with
    | [d], _ =>
      have h0 : 0 < d := by
        rcases Nat.eq_zero_or_pos d with rfl | h
        · simp [trim] at tv
        · exact h
      obtain ⟨rv, B, cb, rfl, hrb⟩ := hb
      have hd : d < 4294967296 := rv d (by simp)
      obtain ⟨bb, ob, rfl, hcb⟩ := row_at hrb (k := 0) (by simp)
      rw [show [d].getD 0 0 = d from rfl, Nat.add_zero] at hcb
      unfold encW at hcb
      rw [val_single]
      have HL := Lib.hid hlen
      have e4 : ((d : Int) % 18446744073709551616) = (d : Int) := by omega
      obtain ⟨m, hm⟩ : ∃ m, m = val us % d := ⟨_, rfl⟩
      have hmd : m < 4294967296 := by have := Nat.mod_lt (val us) h0; omega
      have e5 : IntKind.u32.wrap (m : Int) = (m : Int) := by simp only [IntKind.wrap]; simp [IntKind.bits, IntKind.signed]; omega
      have HM := Lib.hid hm
      have hs := whole_small_calls va us d w ha h0 (by omega) (by omega)
      rw [← hm] at hs ⊢
      clear hm hlen tv
      go_enter Try.func170, Try.ntmps170
      go_wp2_with (first
        | (go_at_call 145; refine (trim_calls ((lit1_N _ _ hmd).is)).mono ?_; rintro e w' ⟨v', rfl, rfl, hIm, hNt⟩)
        | (go_at_call 159; refine hs.mono ?_; rintro e w' ⟨qs, v, HQ, rfl, hN, hb⟩))
      go_ret2
      exact ⟨qs, trim [m], v, v', HQ, Lib.hid (by rw [trim_eq (Rng.cons hmd Rng.nil), val_single]), rfl, hN.below (bl_alloc _ _), (hNt _ (lit1_N _ _ hmd)).mono hb.size, bl_trans hb (bl_alloc _ _)⟩
  · exact whole_div_long va vb us vs w ha hb tv h1 hv0 hlen
end Go.Proofs.Ytnmmgegnioihmaa
namespace Go.Proofs.Ytnmmgegnioihmaa
open Go.RowKit

theorem trim_quiet {A : Option Addr} {c n : Nat} {xs : List Nat} {w : World} (h : Row encW w A c xs) : Calls Try.prog 145 #[.slice A xs.length c] (w.drewN n) fun e w'' => e = .returned (.slice A (trim xs).length c) ∧ ∃ m, w'' = w.drewN m :=
  (trim_at A c xs (w.drewN n) (h.same fun _ _ => rfl)).mono fun e w' ⟨he, hw⟩ => ⟨he, n, hw.symm⟩
theorem bl_drewN (w : World) (n : Nat) : Below w.heap.size w (w.drewN n) := ⟨rfl, rfl, rfl, Nat.le_refl _, fun _ _ => rfl⟩
theorem Row.trimW {A : Option Addr} {c : Nat} {xs : List Nat} {w : World} (h : Row encW w A c xs) (hr : Rng xs) : IsW w (.slice A (trim xs).length c) (trim xs) := by
  obtain ⟨k, hk, e⟩ := trim_prefix xs
  exact ⟨by rw [e]; exact hr.take k, A, c, rfl, by rw [e]; exact h.take k⟩
theorem trim_trim {xs : List Nat} (h : Rng xs) : trim (trim xs) = trim xs := by rw [trim_eq h, trim_words]
theorem val_made {neg : Bool} {xs : List Nat} {i : Int} (h : (if neg then -(val xs : Int) else (val xs : Int)) = i) (hr : Rng xs) : (⟨neg && decide (0 < (trim xs).length), trim xs⟩ : Zr) = canZ i := by rw [made_eq _ _ hr, h]
theorem zmul_val (x y : Zr) (v : Nat) (h : v = val x.ws * val y.ws) : (if (x.neg != y.neg) then -(v : Int) else (v : Int)) = x.val * y.val := by
  subst h
  unfold Zr.val
  cases x.neg <;> cases y.neg <;> simp [Int.neg_mul, Int.mul_neg, Int.neg_neg]
set_option maxHeartbeats 1000000 in
theorem whole_Mul_calls (va vb : Value) (x y : Zr) (w : World) (ha : IsZ w va x) (hb : IsZ w vb y) (hlen : x.ws.length + y.ws.length ≤ 35184372088832) :
    Calls Try.prog 119 #[va, vb] w (PostZ w (x.val * y.val)) := by
  obtain ⟨v1, rfl, hz⟩ := ha
  obtain ⟨v2, rfl, hy⟩ := hb
  have HL := Lib.hid hlen
  clear hlen
  go_enter Try.func119, Try.ntmps119
  go_wp2
  generalize hw0 : World.alloc _ _ = w0
  have hb0 : Below w.heap.size w w0 := by subst hw0; exact bl_alloc2 (bl_alloc2 (bl_alloc _ _) _) _
  have t1 : Box2 w w0 (· = w.heap.size + 2) w.heap.size (.bool x.neg) v1 := Box2.mk (by omega) (by subst hw0; refine ⟨?_, ?_⟩ <;> go_simp)
  have t2 : Box2 w w0 (· = w.heap.size + 2) (w.heap.size + 1) (.bool y.neg) v2 := Box2.mk (by omega) (by subst hw0; refine ⟨?_, ?_⟩ <;> go_simp)
  have k0 : Two (w.heap.size + 2) w0 := by subst hw0; exact Two.alloc _ _ _ (by simp)
  have f0 : Fr w w0 (· = w.heap.size + 2) w0 := Fr.start hb0
  have z0 : w0.heap.size = w.heap.size + 3 := by subst hw0; simp
  clear hw0
  go_region_held3 (fun W => Fr w w0 (· = w.heap.size + 2) W) (first | assumption | exact f0.drew | exact Fr.call (by assumption) (by assumption) | exact Fr.put2 f2 (by rfl) (by omega) _ _) (first
    | (go_at_call 145; (with_reducible refine (trim_calls (hz.below (Fr.b (by assumption)))).mono ?_); rintro e w1 ⟨vx, rfl, rfl, hx, -⟩)
    | (go_at_call 145; (with_reducible refine (trim_calls (hy.below (Fr.b (by assumption)))).mono ?_); rintro e w1 ⟨vy, rfl, rfl, hv, -⟩)
    | (go_at_call 144; (with_reducible refine (whole_mul_calls _ _ _ _ _ hx hv (Nat.le_trans (Nat.add_le_add (trim_len _) (trim_len _)) HL.out)).mono ?_); rintro e w2 ⟨os, vo, HM, rfl, ho, hb1⟩; obtain ⟨hr, A, c, rfl, hN⟩ := ho)
    | (go_at_call 142; (with_reducible refine (made_at _ _ _ _ _ hN.toRow).mono ?_); rintro e w2 ⟨rfl, hb2⟩; have f2 := Fr.call (by assumption) hb2; obtain ⟨⟨x0, y0⟩, ⟨x1, y1⟩, g0, g1⟩ := (Fr.two f2 k0).cells))
  go_wp2
  have hZ := made_NZ (!(x.neg == y.neg)) hr (hN.below hb2) (i := x.val * y.val) (zmul_val x y _ (by rw [HM.out.final, val_trim hz.1, val_trim hy.1]))
  refine bodyPost_ret (v := .agg #[.bool _, .slice _ _ _]) (by simp [results, Try.results119, go_sem, y0, y1]) rfl (postZ_put2 hZ rfl f2.b (by omega) (by simp; omega))

theorem zadd_same {x y : Zr} (h : x.neg = y.neg) : (if x.neg then -((val x.ws + val y.ws : Nat) : Int) else ((val x.ws + val y.ws : Nat) : Int)) = x.val + y.val := by
  unfold Zr.val
  rw [← h]
  cases x.neg <;> simp <;> omega
theorem zadd_ge {x y : Zr} (h : (x.neg == y.neg) = false) (hc : val y.ws ≤ val x.ws) : (if x.neg then -((val x.ws - val y.ws : Nat) : Int) else ((val x.ws - val y.ws : Nat) : Int)) = x.val + y.val := by
  unfold Zr.val
  cases hx : x.neg <;> cases hy : y.neg <;> rw [hx, hy] at h <;> simp at h ⊢ <;> omega
theorem zadd_lt {x y : Zr} (h : (x.neg == y.neg) = false) (hc : val x.ws ≤ val y.ws) : (if y.neg then -((val y.ws - val x.ws : Nat) : Int) else ((val y.ws - val x.ws : Nat) : Int)) = x.val + y.val := by
  unfold Zr.val
  cases hx : x.neg <;> cases hy : y.neg <;> rw [hx, hy] at h <;> simp at h ⊢ <;> omega
set_option maxHeartbeats 1000000 in
theorem whole_Add_calls (va vb : Value) (x y : Zr) (w : World) (ha : IsZ w va x) (hb : IsZ w vb y) (hlen : x.ws.length + y.ws.length + 2 ≤ 35184372088832) :
    Calls Try.prog 126 #[va, vb] w (PostZ w (x.val + y.val)) := by
  obtain ⟨v1, rfl, hz⟩ := ha
  obtain ⟨v2, rfl, hy⟩ := hb
  have hl1 : max (trim x.ws).length (trim y.ws).length + 2 ≤ 35184372088832 := by have := trim_len x.ws; have := trim_len y.ws; omega
  have hl2 : max (trim y.ws).length (trim x.ws).length + 2 ≤ 35184372088832 := by have := trim_len x.ws; have := trim_len y.ws; omega
  have HL1 := Lib.hid hl1
  have HL2 := Lib.hid hl2
  have HL3 : Hid (max (trim x.ws).length (trim y.ws).length + 1 ≤ 35184372088832) := Nat.le_trans (Nat.le_succ _) hl1
  clear hlen hl1 hl2
  obtain ⟨rx, Ax, cx, rfl, hrx⟩ := hz
  obtain ⟨ry, Ay, cy, rfl, hry⟩ := hy
  go_enter Try.func126, Try.ntmps126
  go_wp2
  generalize hw0 : World.alloc _ _ = w0
  have hb0 : Below w.heap.size w w0 := by subst hw0; exact bl_alloc2 (bl_alloc2 (bl_alloc _ _) _) _
  have t1 : Box2 w w0 (· = w.heap.size + 2) w.heap.size (.bool x.neg) (.slice Ax x.ws.length cx) := Box2.mk (by omega) (by subst hw0; refine ⟨?_, ?_⟩ <;> go_simp)
  have t2 : Box2 w w0 (· = w.heap.size + 2) (w.heap.size + 1) (.bool y.neg) (.slice Ay y.ws.length cy) := Box2.mk (by omega) (by subst hw0; refine ⟨?_, ?_⟩ <;> go_simp)
  have k0 : Two (w.heap.size + 2) w0 := by subst hw0; exact Two.alloc _ _ _ (by simp)
  have f0 : Fr w w0 (· = w.heap.size + 2) w0 := Fr.start hb0
  have z0 : w0.heap.size = w.heap.size + 3 := by subst hw0; simp
  clear hw0
  obtain ⟨u1, u2⟩ := t1 w0 f0
  obtain ⟨u3, u4⟩ := t2 w0 f0
  have hq1 := hrx.below hb0
  have hq2 := hry.below hb0
  go_quiet (first
    | (go_at_call 145; exact trim_quiet hq1)
    | (go_at_call 145; exact trim_quiet hq2))
  have f1 := f0.call (bl_drewN w0 nq)
  have hXI : IsW w (.slice Ax (trim x.ws).length cx) (trim x.ws) := hrx.trimW rx
  have hYI : IsW w (.slice Ay (trim y.ws).length cy) (trim y.ws) := hry.trimW ry
  have z1 := f1.size
  have hv1 := val_trim rx
  have hv2 := val_trim ry
  generalize w0.drewN nq = wq at *
  obtain ⟨u1, u2⟩ := t1 wq f1
  obtain ⟨u3, u4⟩ := t2 wq f1
  clear hq1 hq2 f0
  by_cases hne : x.neg = y.neg
  rotate_left
  · have hcd : (x.neg == y.neg) = false := by simpa using hne
    obtain ⟨cc, hcc⟩ : ∃ cc, cc = cmpW (trim x.ws) (trim y.ws) := ⟨_, rfl⟩
    have hcs := cmpW_nonneg hXI.1 hYI.1 (trim_trim rx) (trim_trim ry)
    rw [← hcc, hv1, hv2] at hcs
    have hw := whole_cmp_calls _ _ _ _ _ (hXI.below f1.b) (hYI.below f1.b)
    rw [← hcc] at hw
    by_cases hc0 : 0 ≤ cc
    · have HCC := Lib.hid (hcs.1 hc0)
      clear hcs hcc hne
      go_wp2_with (go_at_call 149; refine hw.mono ?_; rintro e w1 ⟨rfl, hbc⟩; have f4 := f1.call hbc; have z4 := f4.size; obtain ⟨u1, u2⟩ := t1 _ f4; obtain ⟨u3, u4⟩ := t2 _ f4)
      go_region_held3 (fun W => Fr w w0 (· = w.heap.size + 2) W) (first | assumption | exact Fr.drew (by assumption) | exact Fr.call (by assumption) (by assumption) | exact Fr.put2 f2 (by rfl) (by omega) _ _) (first
        | (go_at_call 150; (with_reducible refine (whole_sub_calls _ _ _ _ _ (hXI.below (Fr.b (by assumption))) (hYI.below (Fr.b (by assumption))) HL1.out).mono ?_); rintro e w2 ⟨os, vo, HM, rfl, ho, hb1⟩; obtain ⟨hr, A, c, rfl, hN⟩ := ho)
        | (go_at_call 142; (with_reducible refine (made_at _ _ _ _ _ hN.toRow).mono ?_); rintro e w2 ⟨rfl, hb2⟩; have f2 := Fr.call (by assumption) hb2; obtain ⟨⟨x0, y0⟩, ⟨x1, y1⟩, g0, g1⟩ := (Fr.two f2 k0).cells))
      go_wp2
      have hZ := made_NZ x.neg hr (hN.below hb2) (i := x.val + y.val) (by rw [HM.out, subW_val hXI.1 hYI.1 (by rw [hv1, hv2]; exact HCC.out), hv1, hv2]; exact zadd_ge hcd HCC.out)
      refine bodyPost_ret (v := .agg #[.bool _, .slice _ _ _]) (by simp [results, Try.results126, go_sem, y0, y1]) rfl (postZ_put2 hZ rfl f2.b (by omega) (by simp; omega))
    · have HCC : Hid (val x.ws ≤ val y.ws) := by have h := mt hcs.2 hc0; exact Lib.hid (Nat.le_of_lt (Nat.lt_of_not_le h))
      clear hcs hcc hne
      go_wp2_with (go_at_call 149; refine hw.mono ?_; rintro e w1 ⟨rfl, hbc⟩; have f4 := f1.call hbc; have z4 := f4.size; obtain ⟨u1, u2⟩ := t1 _ f4; obtain ⟨u3, u4⟩ := t2 _ f4)
      go_region_held3 (fun W => Fr w w0 (· = w.heap.size + 2) W) (first | assumption | exact Fr.drew (by assumption) | exact Fr.call (by assumption) (by assumption) | exact Fr.put2 f2 (by rfl) (by omega) _ _) (first
        | (go_at_call 150; (with_reducible refine (whole_sub_calls _ _ _ _ _ (hYI.below (Fr.b (by assumption))) (hXI.below (Fr.b (by assumption))) HL2.out).mono ?_); rintro e w2 ⟨os, vo, HM, rfl, ho, hb1⟩; obtain ⟨hr, A, c, rfl, hN⟩ := ho)
        | (go_at_call 142; (with_reducible refine (made_at _ _ _ _ _ hN.toRow).mono ?_); rintro e w2 ⟨rfl, hb2⟩; have f2 := Fr.call (by assumption) hb2; obtain ⟨⟨x0, y0⟩, ⟨x1, y1⟩, g0, g1⟩ := (Fr.two f2 k0).cells))
      go_wp2
      have hZ := made_NZ y.neg hr (hN.below hb2) (i := x.val + y.val) (by rw [HM.out, subW_val hYI.1 hXI.1 (by rw [hv1, hv2]; exact HCC.out), hv1, hv2]; exact zadd_lt hcd HCC.out)
      refine bodyPost_ret (v := .agg #[.bool _, .slice _ _ _]) (by simp [results, Try.results126, go_sem, y0, y1]) rfl (postZ_put2 hZ rfl f2.b (by omega) (by simp; omega))
  · have hcd : (x.neg == y.neg) = true := by simpa using hne
    have HNE := Lib.hid hne
    clear hne
    go_wp2
    go_region_held3 (fun W => Fr w w0 (· = w.heap.size + 2) W) (first | assumption | exact Fr.drew (by assumption) | exact Fr.call (by assumption) (by assumption) | exact Fr.put2 f2 (by rfl) (by omega) _ _) (first
      | (go_at_call 148; (with_reducible refine (whole_add_calls _ _ _ _ _ (hXI.below (Fr.b (by assumption))) (hYI.below (Fr.b (by assumption))) HL3.out).mono ?_); rintro e w2 ⟨os, vo, HM, rfl, ho, hb1⟩; obtain ⟨hr, A, c, rfl, hN⟩ := ho)
      | (go_at_call 142; (with_reducible refine (made_at _ _ _ _ _ hN.toRow).mono ?_); rintro e w2 ⟨rfl, hb2⟩; have f2 := Fr.call (by assumption) hb2; obtain ⟨⟨x0, y0⟩, ⟨x1, y1⟩, g0, g1⟩ := (Fr.two f2 k0).cells))
    go_wp2
    have hZ := made_NZ x.neg hr (hN.below hb2) (i := x.val + y.val) (by rw [HM.out, addW_val hXI.1 hYI.1, hv1, hv2]; exact zadd_same HNE.out)
    refine bodyPost_ret (v := .agg #[.bool _, .slice _ _ _]) (by simp [results, Try.results126, go_sem, y0, y1]) rfl (postZ_put2 hZ rfl f2.b (by omega) (by simp; omega))
set_option maxHeartbeats 1000000 in
theorem whole_Sub_calls (va vb : Value) (x y : Zr) (w : World) (ha : IsZ w va x) (hb : IsZ w vb y) (hlen : x.ws.length + y.ws.length + 2 ≤ 35184372088832) :
    Calls Try.prog 128 #[va, vb] w (PostZ w (x.val - y.val)) := by
  obtain ⟨v1, rfl, hz⟩ := ha
  obtain ⟨v2, rfl, hy⟩ := hb
  have HL := Lib.hid hlen
  clear hlen
  have hN2 : IsZ w (.agg #[.bool (!y.neg), v2]) ⟨!y.neg, y.ws⟩ := ⟨v2, rfl, hy⟩
  have hN1 : IsZ w (.agg #[.bool x.neg, v1]) x := ⟨v1, rfl, hz⟩
  have hval : x.val + (⟨!y.neg, y.ws⟩ : Zr).val = x.val - y.val := by
    unfold Zr.val
    cases y.neg <;> simp <;> omega
  have HV := Lib.hid hval
  clear hval
  obtain ⟨ry, Ay, cy, rfl, hry⟩ := hy
  go_enter Try.func128, Try.ntmps128
  go_wp2_with (go_at_call 126; generalize hw0 : World.alloc _ _ = w0; have hb0 : Below w.heap.size w w0 := by subst hw0; exact bl_alloc2 (bl_alloc2 (bl_alloc _ _) _) _
               have k0 : Two (w.heap.size + 2) w0 := by subst hw0; exact Two.alloc _ _ _ (by simp)
               have z0 : w0.heap.size = w.heap.size + 3 := by subst hw0; simp
               clear hw0
               refine (whole_Add_calls _ _ _ _ _ (hN1.below hb0) (hN2.below hb0) HL.out).mono ?_; rw [HV.out]; rintro e w1 ⟨z, v, HZ, rfl, hZ, hb⟩
               obtain ⟨v3, rfl, hr, A, c, rfl, hN⟩ := hZ; obtain ⟨⟨x0, y0⟩, ⟨x1, y1⟩, g0, g1⟩ := (k0.below hb).cells)
  refine bodyPost_ret (v := .agg #[.bool _, .slice _ _ _]) (by simp [results, Try.results128, go_sem, y0, y1]) rfl (postZ_put2 ⟨_, rfl, hr, A, c, rfl, hN⟩ HZ.out (bl_trans hb0 hb) (by omega) (by omega))
set_option maxHeartbeats 1000000 in
theorem whole_Cmp_calls (va vb : Value) (x y : Zr) (w : World) (ha : IsZ w va x) (hb : IsZ w vb y) (hlen : x.ws.length + y.ws.length + 2 ≤ 35184372088832) :
    Calls Try.prog 118 #[va, vb] w fun e w' => e = .returned (.int .i64 (x.val - y.val).sign) ∧ Below w.heap.size w w' := by
  obtain ⟨v1, rfl, hz⟩ := ha
  obtain ⟨v2, rfl, hy⟩ := hb
  have hN2 : IsZ w (.agg #[.bool y.neg, v2]) y := ⟨v2, rfl, hy⟩
  have hN1 : IsZ w (.agg #[.bool x.neg, v1]) x := ⟨v1, rfl, hz⟩
  have HL := Lib.hid hlen
  clear hlen
  go_enter Try.func118, Try.ntmps118
  go_wp2_with (first
    | (go_at_call 128; refine (whole_Sub_calls _ _ x y _ (hN1.below (bl_alloc2 (bl_alloc _ _) _)) (hN2.below (bl_alloc2 (bl_alloc _ _) _)) HL.out).mono ?_; rintro e w1 ⟨z, v, HZ, rfl, hZ, hb⟩)
    | (go_at_call 123; refine (Sign_calls _ z _ hZ.is).mono ?_; rintro e w2 ⟨rfl, hb2⟩))
  go_ret
  exact ⟨ret_int (by rw [HZ.out, canZ_val]), bl_trans (bl_trans (bl_alloc2 (bl_alloc _ _) _) hb) hb2⟩
end Go.Proofs.Ytnmmgegnioihmaa
namespace Go.Proofs.Ytnmmgegnioihmaa
open Go.RowKit

theorem ediv_pos_of {a b q r : Int} (hb : 0 < b) (h : r + b * q = a) (h0 : 0 ≤ r) (h1 : r < b) : a / b = q ∧ a % b = r := (Int.ediv_emod_unique hb).2 ⟨h, h0, h1⟩
theorem ediv_neg_of {a b q r : Int} (hb : 0 < b) (h : r + b * q = a) (h0 : 0 ≤ r) (h1 : r < b) : a / (-b) = -q ∧ a % (-b) = r := by
  rw [Int.ediv_neg, Int.emod_neg]; have := ediv_pos_of hb h h0 h1; exact ⟨by rw [this.1], this.2⟩
theorem zdm_pos {X Y : Nat} (hY : 0 < Y) : (X : Int) / (Y : Int) = ((X / Y : Nat) : Int) ∧ (X : Int) % (Y : Int) = ((X % Y : Nat) : Int) := by simp
theorem zdm_neg0 {X Y : Nat} (hY : 0 < Y) (h : X % Y = 0) : (-(X : Int)) / (Y : Int) = -((X / Y : Nat) : Int) ∧ (-(X : Int)) % (Y : Int) = 0 := by
  have e := Nat.div_add_mod X Y
  rw [h, Nat.add_zero] at e
  have e2 : (Y : Int) * ((X / Y : Nat) : Int) = (X : Int) := by rw [← e]; simp [Int.natCast_mul]; rw [Int.mul_ediv_cancel_left _ (by omega)]
  exact ediv_pos_of (by omega) (by rw [Int.mul_neg, e2]; omega) (by omega) (by omega)
theorem zdm_neg1 {X Y : Nat} (hY : 0 < Y) (h : 0 < X % Y) : (-(X : Int)) / (Y : Int) = -((X / Y + 1 : Nat) : Int) ∧ (-(X : Int)) % (Y : Int) = ((Y - X % Y : Nat) : Int) := by
  have e := Nat.div_add_mod X Y
  have hl := Nat.mod_lt X hY
  refine ediv_pos_of (by omega) ?_ (by omega) (by omega)
  generalize X % Y = m at *
  generalize X / Y = d at *
  subst e
  have e1 : ((Y - m : Nat) : Int) = (Y : Int) - (m : Int) := by omega
  rw [Int.mul_neg, e1, Int.natCast_add, Int.natCast_add, Int.natCast_mul, Int.mul_add]
  omega
/-- what DivMod's magnitudes are -/
def dmQ (b : Bool) (X Y : Nat) : Nat := if b && decide (0 < X % Y) then X / Y + 1 else X / Y
def dmR (b : Bool) (X Y : Nat) : Nat := if b && decide (0 < X % Y) then Y - X % Y else X % Y
theorem dm_val {xn yn : Bool} {X Y : Nat} (hY : 0 < Y) : (if (xn != yn) then -((dmQ xn X Y : Nat) : Int) else ((dmQ xn X Y : Nat) : Int)) = (if xn then -(X : Int) else X) / (if yn then -(Y : Int) else Y) ∧
    ((dmR xn X Y : Nat) : Int) = (if xn then -(X : Int) else X) % (if yn then -(Y : Int) else Y) := by
  have h1 := zdm_pos (X := X) hY
  unfold dmQ dmR
  cases xn
  · cases yn <;> simp
  · by_cases h : 0 < X % Y
    · have h2 := zdm_neg1 hY h
      rw [decide_eq_true h]
      cases yn
      · simp only [Bool.and_true, if_true, Bool.true_bne, Bool.not_false, Bool.false_eq_true, if_false]
        exact ⟨h2.1.symm, h2.2.symm⟩
      · simp only [Bool.and_true, if_true, Bool.true_bne, Bool.not_true, Bool.false_eq_true, if_false]
        rw [Int.ediv_neg, Int.emod_neg, h2.1, h2.2]
        exact ⟨(Int.neg_neg _).symm, rfl⟩
    · have h2 := zdm_neg0 hY (Nat.eq_zero_of_not_pos h)
      have h3 : X % Y = 0 := Nat.eq_zero_of_not_pos h
      rw [decide_eq_false h]
      cases yn
      · simp only [Bool.and_false, if_true, Bool.true_bne, Bool.not_false, Bool.false_eq_true, if_false]
        rw [h2.1, h2.2, h3]
        exact ⟨rfl, rfl⟩
      · simp only [Bool.and_false, if_true, Bool.true_bne, Bool.not_true, Bool.false_eq_true, if_false]
        rw [Int.ediv_neg, Int.emod_neg, h2.1, h2.2, h3]
        exact ⟨(Int.neg_neg _).symm, rfl⟩
theorem pos_words {n : Nat} : 0 < ((wordsOf n).length : Int) ↔ 0 < n := by
  have h := trim_len_zero (rng_wordsOf n)
  rw [trim_words, val_wordsOf] at h
  omega
def PostDM (w : World) (DQ DR : Int) (e : Ending) (w' : World) : Prop := ∃ q r v1 v2, Hid (q = canZ DQ) ∧ Hid (r = canZ DR) ∧ e = .returned (.tuple #[v1, v2, .int .i64 0]) ∧ NZ w.heap.size w' v1 q ∧ NZ w.heap.size w' v2 r ∧ Below w.heap.size w w'
theorem dm_post {w W : World} {DQ DR : Int} {n1 k1 k2 : Nat} {v1 v2 : Value} {q r : Zr} {a b c d : Value} (hq : NZ n1 W v1 q) (hr : NZ n1 W v2 r) (eq : q = canZ DQ) (er : r = canZ DR) (hb : Below w.heap.size w W) (h1 : w.heap.size ≤ k1) (h2 : k1 < n1) (h3 : w.heap.size ≤ k2) (h4 : k2 < n1) :
    PostDM w DQ DR (.returned (.tuple #[v1, v2, .int .i64 0])) ((((W.setCell ⟨k1, 0, none⟩ a).setCell ⟨k1, 1, none⟩ b).setCell ⟨k2, 0, none⟩ c).setCell ⟨k2, 1, none⟩ d) :=
  ⟨q, r, v1, v2, eq, er, rfl, ((((hq.setCell (p := ⟨k1, 0, none⟩) h2 a).setCell (p := ⟨k1, 1, none⟩) h2 b).setCell (p := ⟨k2, 0, none⟩) h4 c).setCell (p := ⟨k2, 1, none⟩) h4 d).mono (by omega),
    ((((hr.setCell (p := ⟨k1, 0, none⟩) h2 a).setCell (p := ⟨k1, 1, none⟩) h2 b).setCell (p := ⟨k2, 0, none⟩) h4 c).setCell (p := ⟨k2, 1, none⟩) h4 d).mono (by omega),
    (((hb.setCell (p := ⟨k1, 0, none⟩) h1 a).setCell (p := ⟨k1, 1, none⟩) h1 b).setCell (p := ⟨k2, 0, none⟩) h3 c).setCell (p := ⟨k2, 1, none⟩) h3 d⟩
set_option maxHeartbeats 2000000 in
theorem DivMod_calls (va vb : Value) (x y : Zr) (w : World) (ha : IsZ w va x) (hb : IsZ w vb y) (h0 : y.val ≠ 0) (hlen : x.ws.length + y.ws.length + 4 ≤ 35184372088832) :
    Calls Try.prog 152 #[va, vb] w (PostDM w (x.val / y.val) (x.val % y.val)) := by
  obtain ⟨xn, xs⟩ := x
  obtain ⟨yn, ys⟩ := y
  obtain ⟨v1, rfl, hz⟩ := ha
  obtain ⟨v2, rfl, hy⟩ := hb
  dsimp only at hz hy hlen ⊢
  have hY : 0 < val ys := by
    rcases Nat.eq_zero_or_pos (val ys) with h | h
    · exact absurd (by unfold Zr.val; dsimp only; rw [h]; cases yn <;> rfl) h0
    · exact h
  have hdm := dm_val (xn := xn) (yn := yn) (X := val xs) hY
  have hdm2 : (if (xn != yn) then -((dmQ xn (val xs) (val ys) : Nat) : Int) else ((dmQ xn (val xs) (val ys) : Nat) : Int)) = (⟨xn, xs⟩ : Zr).val / (⟨yn, ys⟩ : Zr).val ∧ ((dmR xn (val xs) (val ys) : Nat) : Int) = (⟨xn, xs⟩ : Zr).val % (⟨yn, ys⟩ : Zr).val := hdm
  generalize (⟨xn, xs⟩ : Zr).val / (⟨yn, ys⟩ : Zr).val = DQ at *
  generalize (⟨xn, xs⟩ : Zr).val % (⟨yn, ys⟩ : Zr).val = DR at *
  have HDM := Lib.hid hdm2
  clear hdm hdm2 h0
  obtain ⟨rx, Ax, cx, rfl, hrx⟩ := hz
  obtain ⟨ry, Ay, cy, rfl, hry⟩ := hy
  have hlen2 : (trim xs).length + (trim ys).length + 4 ≤ 35184372088832 := by have := trim_len xs; have := trim_len ys; omega
  have HL := Lib.hid hlen2
  have hne : trim ys ≠ [] := by
    intro h
    have := (trim_len_zero ry).1 (by rw [h]; rfl)
    omega
  have hne0 : (((trim ys).length : Int) == 0) = false := by
    rw [beq_eq_false_iff_ne]
    intro h
    exact hne (List.length_eq_zero_iff.1 (by omega))
  clear hlen hlen2
  go_enter Try.func152, Try.ntmps152
  go_wp2
  generalize hw0 : World.alloc _ _ = w0
  have hb0 : Below w.heap.size w w0 := by subst hw0; exact bl_alloc2 (bl_alloc2 (bl_alloc2 (bl_alloc _ _) _) _) _
  have t1 : w0.cell? ⟨w.heap.size, 0, none⟩ = some (.bool xn) ∧ w0.cell? ⟨w.heap.size, 1, none⟩ = some (.slice Ax xs.length cx) := by subst hw0; refine ⟨?_, ?_⟩ <;> go_simp
  have t2 : w0.cell? ⟨w.heap.size + 1, 0, none⟩ = some (.bool yn) ∧ w0.cell? ⟨w.heap.size + 1, 1, none⟩ = some (.slice Ay ys.length cy) := by subst hw0; refine ⟨?_, ?_⟩ <;> go_simp
  have k1 : Two (w.heap.size + 2) w0 := by subst hw0; exact (Two.alloc _ _ _ (by simp)).below (bl_alloc _ _)
  have k2 : Two (w.heap.size + 3) w0 := by subst hw0; exact Two.alloc _ _ _ (by simp)
  have z0 : w0.heap.size = w.heap.size + 4 := by subst hw0; simp
  clear hw0
  obtain ⟨u1, u2⟩ := t1
  obtain ⟨u3, u4⟩ := t2
  have hq1 := hrx.below hb0
  have hq2 := hry.below hb0
  go_quiet (first
    | (go_at_call 145; exact trim_quiet hq1)
    | (go_at_call 145; exact trim_quiet hq2))
  have hXI : IsW (w0.drewN nq) (.slice Ax (trim xs).length cx) (trim xs) := (hq1.trimW rx).below (bl_drewN w0 nq)
  have hYI : IsW (w0.drewN nq) (.slice Ay (trim ys).length cy) (trim ys) := (hq2.trimW ry).below (bl_drewN w0 nq)
  have hb1 : Below w.heap.size w (w0.drewN nq) := bl_trans hb0 (bl_drewN w0 nq)
  replace k1 := k1.below (bl_drewN w0 nq)
  replace k2 := k2.below (bl_drewN w0 nq)
  have z1 : (w0.drewN nq).heap.size = w.heap.size + 4 := z0
  replace u1 : (w0.drewN nq).cell? ⟨w.heap.size, 0, none⟩ = some (.bool xn) := u1
  replace u3 : (w0.drewN nq).cell? ⟨w.heap.size + 1, 0, none⟩ = some (.bool yn) := u3
  have hv1 := val_trim rx
  have hv2 := val_trim ry
  clear u2 u4 hq1 hq2 hb0 z0 hrx hry
  generalize w0.drewN nq = wq at *
  have hdv := whole_div_calls _ _ _ _ _ hXI hYI (trim_trim ry) hne HL.out
  rw [hv1, hv2] at hdv
  obtain ⟨D, hD⟩ : ∃ D, D = val xs / val ys := ⟨_, rfl⟩
  obtain ⟨M, hM⟩ : ∃ M, M = val xs % val ys := ⟨_, rfl⟩
  rw [← hD, ← hM] at hdv
  have HD := Lib.hid hD
  have HM := Lib.hid hM
  have HMY : Hid (M < val ys) := by have := Nat.mod_lt (val xs) hY; rw [← hM] at this; exact Lib.hid this
  clear hD hM hY
  by_cases hc : xn = true ∧ (0 : Int) < ((wordsOf M).length : Int)
  · obtain ⟨rfl, hm⟩ := hc
    have hm0 : 0 < M := pos_words.1 hm
    have HM0 := Lib.hid hm0
    have hla : max (wordsOf D).length [1].length + 1 ≤ 35184372088832 := by
      have h1 : D ≤ val (trim xs) := by rw [hv1, HD.out]; exact Nat.div_le_self _ _
      have h2 := wordsOf_len_mono h1
      rw [← trim_eq hXI.1, trim_trim rx] at h2
      have := HL.out
      simp only [List.length_cons, List.length_nil]
      omega
    have hls : max (trim ys).length (wordsOf M).length + 2 ≤ 35184372088832 := by
      have h1 : M ≤ val (trim ys) := by rw [hv2]; exact Nat.le_of_lt HMY.out
      have h2 := wordsOf_len_mono h1
      rw [← trim_eq hYI.1, trim_trim ry] at h2
      have := HL.out
      omega
    clear hm0
    go_wp2_with (first
      | (go_at_call 170; refine hdv.mono ?_; rintro e w1 ⟨qs, rs, v1, v2, HQ, HR, rfl, hN1, hN2, hbd⟩; obtain rfl := HQ.out; obtain rfl := HR.out; obtain ⟨rq, Aq, cq, rfl, hNq⟩ := hN1; obtain ⟨rr, Ar, cr, rfl, hNr⟩ := hN2
         replace u1 := bl_cell hbd u1; replace u3 := bl_cell hbd u3)
      | (go_at_call 148; refine (whole_add_calls _ _ _ _ _ ((hNq.is_W rq).below (bl_alloc _ _)) (lit1_W _ _ (x := 1) (by omega)) hla).mono ?_; rintro e w2 ⟨xa, va, HA, rfl, hNa, hba⟩; obtain ⟨ra, Aa, caa, rfl, hNa⟩ := hNa
         replace u1 := bl_cell (bl_trans (bl_alloc _ _) hba) u1; replace u3 := bl_cell (bl_trans (bl_alloc _ _) hba) u3)
      | (go_at_call 150; refine (whole_sub_calls _ _ _ _ _ (hYI.below (bl_trans hbd (bl_trans (bl_alloc _ _) hba))) (((hNr.is_W rr).below (bl_trans (bl_alloc _ _) hba))) hls).mono ?_; rintro e w3 ⟨xss, vs, HS, rfl, hNs, hbs⟩; obtain ⟨rs, As, csx, rfl, hNs⟩ := hNs
         replace u1 := bl_cell hbs u1; replace u3 := bl_cell hbs u3)
      | (go_at_call 142; (with_reducible refine (made_at _ _ _ _ _ (hNa.toRow.below hbs)).mono ?_); rintro e w4 ⟨rfl, hb4⟩; replace u1 := bl_cell hb4 u1; replace u3 := bl_cell hb4 u3)
      | (go_at_call 142; (with_reducible refine (made_at _ _ _ _ _ (hNs.toRow.below hb4)).mono ?_); rintro e w5 ⟨rfl, hb5⟩
         have hbt := bl_trans hbd (bl_trans (bl_alloc _ _) (bl_trans hba (bl_trans hbs (bl_trans hb4 hb5))))
         obtain ⟨⟨x0, y0⟩, ⟨x1, y1⟩, g0, g1⟩ := (k1.below hbt).cells; obtain ⟨⟨x2, y2⟩, ⟨x3, y3⟩, g2, g3⟩ := (k2.below hbt).cells))
    have hdq : dmQ true (val xs) (val ys) = D + 1 := by unfold dmQ; rw [← HD.out, ← HM.out]; simp [HM0.out]
    have hdr : dmR true (val xs) (val ys) = val ys - M := by unfold dmR; rw [← HM.out]; simp [HM0.out]
    have hfin := HDM.out
    rw [hdq, hdr] at hfin
    have hqv : val xa = D + 1 := by rw [HA.out, addW_val rq (Rng.cons (by omega) Rng.nil), val_wordsOf, val_single]
    have hrv : val xss = val ys - M := by rw [HS.out, subW_val hYI.1 rr (by rw [hv2, val_wordsOf]; exact Nat.le_of_lt HMY.out), hv2, val_wordsOf]
    have hZq := made_NZ (!yn) ra (((hNa.below hbs).below hb4).below hb5) (i := DQ) (by rw [hqv, ← hfin.1]; cases yn <;> rfl)
    have hZr := made_NZ false rs ((hNs.below hb4).below hb5) (i := DR) (by rw [hrv, ← hfin.2]; rfl)
    have s1 := hbd.size
    have s2 := hba.size
    refine bodyPost_ret (v := .tuple #[.agg #[.bool _, .slice _ _ _], .agg #[.bool _, .slice _ _ _], .int .i64 0]) (by simp [results, Try.results152, go_sem, y0, y1, y2, y3]) rfl (dm_post (n1 := wq.heap.size) (hZq.mono (Nat.le_trans s1 (bl_alloc _ _).size)) (hZr.mono (Nat.le_trans s1 (Nat.le_trans (bl_alloc _ _).size s2))) rfl rfl (bl_trans hb1 hbt) (by omega) (by omega) (by omega) (by omega))
  · cases xn
    · have hdq : Hid (dmQ false (val xs) (val ys) = D) := Lib.hid (by unfold dmQ; rw [← HD.out]; rfl)
      have hdr : Hid (dmR false (val xs) (val ys) = M) := Lib.hid (by unfold dmR; rw [← HM.out]; rfl)
      clear hc
      go_wp2_with (first
        | (go_at_call 170; refine hdv.mono ?_; rintro e w1 ⟨qs, rs, v1, v2, HQ, HR, rfl, hN1, hN2, hbd⟩; obtain rfl := HQ.out; obtain rfl := HR.out; obtain ⟨rq, Aq, cq, rfl, hNq⟩ := hN1; obtain ⟨rr, Ar, cr, rfl, hNr⟩ := hN2
           replace u1 := bl_cell hbd u1; replace u3 := bl_cell hbd u3)
        | (go_at_call 142; (with_reducible refine (made_at _ _ _ _ _ hNq.toRow).mono ?_); rintro e w4 ⟨rfl, hb4⟩; replace u1 := bl_cell hb4 u1; replace u3 := bl_cell hb4 u3)
        | (go_at_call 142; (with_reducible refine (made_at _ _ _ _ _ (hNr.toRow.below hb4)).mono ?_); rintro e w5 ⟨rfl, hb5⟩
           have hbt := bl_trans hbd (bl_trans hb4 hb5)
           obtain ⟨⟨x0, y0⟩, ⟨x1, y1⟩, g0, g1⟩ := (k1.below hbt).cells; obtain ⟨⟨x2, y2⟩, ⟨x3, y3⟩, g2, g3⟩ := (k2.below hbt).cells))
      have hfin := HDM.out
      rw [hdq.out, hdr.out] at hfin
      have hbds := hbd.size
      have hZq := made_NZ yn rq ((hNq.below hb4).below hb5) (i := DQ) (by rw [val_wordsOf, ← hfin.1]; cases yn <;> rfl)
      have hZr := made_NZ false rr ((hNr.below hb4).below hb5) (i := DR) (by rw [val_wordsOf, ← hfin.2]; rfl)
      refine bodyPost_ret (v := .tuple #[.agg #[.bool _, .slice _ _ _], .agg #[.bool _, .slice _ _ _], .int .i64 0]) (by simp [results, Try.results152, go_sem, y0, y1, y2, y3]) rfl (dm_post (n1 := wq.heap.size) (hZq.mono (by omega)) (hZr.mono (by omega)) rfl rfl (bl_trans hb1 hbt) (by omega) (by omega) (by omega) (by omega))
    · have hm : ¬ (0 : Int) < ((wordsOf M).length : Int) := fun h => hc ⟨rfl, h⟩
      have hM0 : ¬ 0 < M := fun h => hm (pos_words.2 h)
      have hdq : Hid (dmQ true (val xs) (val ys) = D) := Lib.hid (by unfold dmQ; rw [← HD.out, ← HM.out]; simp [hM0])
      have hdr : Hid (dmR true (val xs) (val ys) = M) := Lib.hid (by unfold dmR; rw [← HM.out]; simp [hM0])
      have hmd : decide ((0 : Int) < ((wordsOf M).length : Int)) = false := by simpa using hm
      clear hc hM0
      go_wp2_with (first
        | (go_at_call 170; refine hdv.mono ?_; rintro e w1 ⟨qs, rs, v1, v2, HQ, HR, rfl, hN1, hN2, hbd⟩; obtain rfl := HQ.out; obtain rfl := HR.out; obtain ⟨rq, Aq, cq, rfl, hNq⟩ := hN1; obtain ⟨rr, Ar, cr, rfl, hNr⟩ := hN2
           replace u1 := bl_cell hbd u1; replace u3 := bl_cell hbd u3)
        | (go_at_call 142; (with_reducible refine (made_at _ _ _ _ _ hNq.toRow).mono ?_); rintro e w4 ⟨rfl, hb4⟩; replace u1 := bl_cell hb4 u1; replace u3 := bl_cell hb4 u3)
        | (go_at_call 142; (with_reducible refine (made_at _ _ _ _ _ (hNr.toRow.below hb4)).mono ?_); rintro e w5 ⟨rfl, hb5⟩
           have hbt := bl_trans hbd (bl_trans hb4 hb5)
           obtain ⟨⟨x0, y0⟩, ⟨x1, y1⟩, g0, g1⟩ := (k1.below hbt).cells; obtain ⟨⟨x2, y2⟩, ⟨x3, y3⟩, g2, g3⟩ := (k2.below hbt).cells))
      have hfin := HDM.out
      rw [hdq.out, hdr.out] at hfin
      have hbds := hbd.size
      have hZq := made_NZ (!yn) rq ((hNq.below hb4).below hb5) (i := DQ) (by rw [val_wordsOf, ← hfin.1]; cases yn <;> rfl)
      have hZr := made_NZ false rr ((hNr.below hb4).below hb5) (i := DR) (by rw [val_wordsOf, ← hfin.2]; rfl)
      refine bodyPost_ret (v := .tuple #[.agg #[.bool _, .slice _ _ _], .agg #[.bool _, .slice _ _ _], .int .i64 0]) (by simp [results, Try.results152, go_sem, y0, y1, y2, y3]) rfl (dm_post (n1 := wq.heap.size) (hZq.mono (by omega)) (hZr.mono (by omega)) rfl rfl (bl_trans hb1 hbt) (by omega) (by omega) (by omega) (by omega))
theorem gcd_step (X Y : Nat) : Nat.gcd X Y = Nat.gcd Y (X % Y) := by rw [Nat.gcd_comm X Y, Nat.gcd_rec Y X, Nat.gcd_comm]
set_option maxHeartbeats 2000000 in
theorem GCD_calls (va vb : Value) (x y : Zr) (w : World) (ha : IsZ w va x) (hb : IsZ w vb y) (hlen : 2 * (x.ws.length + y.ws.length) + 4 ≤ 35184372088832) :
    Calls Try.prog 151 #[va, vb] w (PostZ w (Int.gcd x.val y.val : Nat)) := by
  obtain ⟨xn, xs⟩ := x
  obtain ⟨yn, ys⟩ := y
  obtain ⟨v1, rfl, hz⟩ := ha
  obtain ⟨v2, rfl, hy⟩ := hb
  dsimp only at hz hy hlen
  have hG : (Int.gcd (⟨xn, xs⟩ : Zr).val (⟨yn, ys⟩ : Zr).val : Nat) = Nat.gcd (val xs) (val ys) := by
    unfold Zr.val Int.gcd
    cases xn <;> cases yn <;> simp
  rw [hG]
  clear hG
  obtain ⟨rx, Ax, cx, rfl, hrx⟩ := hz
  obtain ⟨ry, Ay, cy, rfl, hry⟩ := hy
  obtain ⟨Ln, hLn1, hLn2, hLn⟩ : ∃ Ln, (trim xs).length ≤ Ln ∧ (trim ys).length ≤ Ln ∧ 2 * Ln + 4 ≤ 35184372088832 := ⟨xs.length + ys.length, by have := trim_len xs; omega, by have := trim_len ys; omega, by omega⟩
  have HL := Lib.hid hLn
  clear hLn hlen
  have hwx := trim_eq rx
  have hwy := trim_eq ry
  go_enter Try.func151, Try.ntmps151
  go_wp2
  generalize hw0 : World.alloc _ _ = w0
  have hb0 : Below w.heap.size w w0 := by subst hw0; exact bl_alloc2 (bl_alloc2 (bl_alloc _ _) _) _
  have t1 : w0.cell? ⟨w.heap.size, 1, none⟩ = some (.slice Ax xs.length cx) := by subst hw0; go_simp
  have t2 : w0.cell? ⟨w.heap.size + 1, 1, none⟩ = some (.slice Ay ys.length cy) := by subst hw0; go_simp
  have k1 : Two (w.heap.size + 2) w0 := by subst hw0; exact Two.alloc _ _ _ (by simp)
  have z0 : w0.heap.size = w.heap.size + 3 := by subst hw0; simp
  clear hw0
  have hq1 := hrx.below hb0
  have hq2 := hry.below hb0
  go_quiet (first
    | (go_at_call 145; exact trim_quiet hq1)
    | (go_at_call 145; exact trim_quiet hq2))
  have hXI : IsW (w0.drewN nq) (.slice Ax (trim xs).length cx) (trim xs) := (hq1.trimW rx).below (bl_drewN w0 nq)
  have hYI : IsW (w0.drewN nq) (.slice Ay (trim ys).length cy) (trim ys) := (hq2.trimW ry).below (bl_drewN w0 nq)
  have hb1 : Below w.heap.size w (w0.drewN nq) := bl_trans hb0 (bl_drewN w0 nq)
  replace k1 := k1.below (bl_drewN w0 nq)
  have z1 : (w0.drewN nq).heap.size = w.heap.size + 3 := z0
  clear t1 t2 hq1 hq2 hb0 z0 hrx hry
  generalize w0.drewN nq = wq at *
  rw [hwx] at hXI hLn1
  rw [hwy] at hYI hLn2
  rw [hwx, hwy]
  generalize val xs = X0 at *
  generalize val ys = Y0 at *
  clear hwx hwy
  go_wp2
  go_loopg [5, 6] Y0 (fun Y vx vy wr => ∃ X, Hid (Nat.gcd X Y = Nat.gcd X0 Y0) ∧ (wordsOf X).length ≤ Ln ∧ (wordsOf Y).length ≤ Ln ∧ IsW wr vx (wordsOf X) ∧ IsW wr vy (wordsOf Y) ∧ Below wq.heap.size wq wr)
  case atStart => exact ⟨X0, rfl, hLn1, hLn2, hXI, hYI, Below.refl _ _⟩
  case round =>
    obtain ⟨X, HG, hl1, hl2, hx, hy, hbr⟩ := hrel
    obtain ⟨rX, Bx, dx, rfl, hrX⟩ := hx
    obtain ⟨rY, By, dy, rfl, hrY⟩ := hy
    by_cases hgt : (0 : Int) < ((wordsOf gk).length : Int)
    · have hY := pos_words.1 hgt
      have hne : wordsOf gk ≠ [] := by intro h; rw [h] at hgt; simp at hgt
      have hdv := whole_div_calls _ _ _ _ _ (⟨rX, Bx, dx, rfl, hrX⟩ : IsW wr (.slice Bx (wordsOf X).length dx) (wordsOf X)) (⟨rY, By, dy, rfl, hrY⟩ : IsW wr (.slice By (wordsOf gk).length dy) (wordsOf gk)) (trim_words _) hne (by have := HL.out; omega)
      rw [val_wordsOf, val_wordsOf] at hdv
      have hlt := Nat.mod_lt X hY
      have hstep := gcd_step X gk
      rw [HG.out] at hstep
      have HS := Lib.hid hstep
      have HLT := Lib.hid hlt
      clear hstep hY hlt
      generalize X % gk = M at *
      generalize X / gk = D at *
      go_wp2_with (go_at_call 170; refine hdv.mono ?_; rintro e w1 ⟨qs, rs, v1, v2, HQ, HR, rfl, hN1, hN2, hbd⟩; obtain rfl := HQ.out; obtain rfl := HR.out; obtain ⟨rq, Aq, cq, rfl, hNq⟩ := hN1; obtain ⟨rr, Ar, cr, rfl, hNr⟩ := hN2)
      go_roundg M
      case measure => exact HLT.out
      case rel => exact ⟨gk, HS.out.symm, hl2, Nat.le_trans (wordsOf_len_mono (Nat.le_of_lt HLT.out)) hl2, ⟨rY, By, dy, rfl, hrY.below hbd⟩, ⟨rr, Ar, cr, rfl, hNr.toRow⟩, bl_trans hbr hbd⟩
    · have h0 : gk = 0 := by
        rcases Nat.eq_zero_or_pos gk with h | h
        · exact h
        · exact absurd (pos_words.2 h) hgt
      subst h0
      have hX : X = Nat.gcd X0 Y0 := by rw [← HG.out, Nat.gcd_zero_right]
      have HX := Lib.hid hX
      clear hX
      have hXW : IsW wr (.slice Bx (wordsOf X).length dx) (wordsOf X) := ⟨rX, Bx, dx, rfl, hrX⟩
      have hlX : (wordsOf X).length ≤ 35184372088832 := by have := HL.out; omega
      go_wp2_with (first
        | (go_at_call 167; (with_reducible refine (Clone_calls _ (wordsOf X) _ hXW hlX).mono ?_); rintro e w1 ⟨ys, v2, hy, rfl, r1, hb2⟩; obtain ⟨hr, A, c, rfl, hN⟩ := r1)
        | (go_at_call 142; (with_reducible refine (made_at _ _ _ _ _ hN.toRow).mono ?_); rintro e w2 ⟨rfl, hb3⟩; obtain ⟨⟨x0, y0⟩, ⟨x1, y1⟩, g0, g1⟩ := (k1.below (bl_trans hbr (bl_trans hb2 hb3))).cells))
      have hZ := made_NZ false hr (hN.below hb3) (i := (Nat.gcd X0 Y0 : Nat)) (by rw [hy.out, val_wordsOf, HX.out]; rfl)
      have hs := hbr.size
      refine bodyPost_ret (v := .agg #[.bool _, .slice _ _ _]) (by simp [results, Try.results151, go_sem, y0, y1]) rfl (postZ_put2 hZ rfl (bl_trans hb1 (bl_trans hbr (bl_trans hb2 hb3))) (by omega) (by omega))
end Go.Proofs.Ytnmmgegnioihmaa
