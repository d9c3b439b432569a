/- Package whole: the carrier's closures; addition, subtraction and comparison of magnitudes. -/
import Derived.Test.YtnmmgegnioihmaaIter
set_option linter.unusedVariables false
set_option linter.unusedSimpArgs false
namespace Go.Proofs.Ytnmmgegnioihmaa
open Go.RowKit Go.Shelf

attribute [local go_sem] Oper.semAt_some

theorem und_words : Try.prog.underlying 39 = some (.slice 100) := Try.underlying39
set_option maxHeartbeats 400000 in
theorem pairs_calls (va vb : Value) (w : World) (A B : Option Addr) (la ca lb cb : Nat) :
    Calls Try.prog 168 #[.slice A la ca, .slice B lb cb] w fun e w' => e = .returned (.func (.func 178) #[] #[.pointer (some ⟨w.heap.size, 0, none⟩), .pointer (some ⟨w.heap.size + 1, 0, none⟩)]) ∧
      w' = (w.alloc (.cells #[.slice A la ca] 39)).alloc (.cells #[.slice B lb cb] 39) := by
  have hmf : ∀ (fn : Fn) (first cap : Array Value) (w : World), (Instr.makeFunc fn first cap).run Try.prog w = .ok (.func fn first cap) w := fun _ _ _ _ => rfl
  go_enter Try.func168, Try.ntmps168
  go_wp2
  go_ret
  exact ⟨rfl, rfl⟩
set_option maxHeartbeats 400000 in
theorem carrier_calls (w : World) :
    Calls Try.prog 167 #[] w fun e w' => e = .returned (.tuple #[.func (.func 176) #[] #[.pointer (some ⟨w.heap.size + 1, 0, none⟩), .pointer (some ⟨w.heap.size, 0, none⟩)],
        .func (.func 177) #[] #[.pointer (some ⟨w.heap.size, 0, none⟩), .pointer (some ⟨w.heap.size + 1, 0, none⟩)]]) ∧
      w' = (w.alloc (.cells #[.slice none 0 0] 39)).alloc (.cells #[.int .u64 0] 131) := by
  have hmf : ∀ (fn : Fn) (first cap : Array Value) (w : World), (Instr.makeFunc fn first cap).run Try.prog w = .ok (.func fn first cap) w := fun _ _ _ _ => rfl
  go_enter Try.func167, Try.ntmps167
  go_wp2
  go_ret2
  exact ⟨rfl, rfl⟩
/-- what put leaves: the boxes of the carry (Bc) and of the words (Bo); all else that lay, but the words' own row, as it lay -/
structure Put (n0 Bc Bo : Nat) (vo : Value) (n : Nat) (ws : List Nat) (c : Nat) (W W' : World) : Prop where
  carry : Boxed W' Bc 131 (.int .u64 (c : Int))
  out : ∃ vo', Boxed W' Bo 39 vo' ∧ W'.ownsRow n0 100 1 vo' n (ws.map encW)
  size : W.heap.size ≤ W'.heap.size
  rest : ∀ k, k < W.heap.size → k ≠ Bc → k ≠ Bo → some k ≠ vo.ownBlock → W'.heap[k]? = W.heap[k]?
  os : W'.os = W.os
  tape : W'.tape = W.tape
  output : W'.output = W.output
theorem own_cells {w : World} {base n : Nat} {e : TypeId} {size : Nat} {v : Value} {xs : List Value} (h : w.ownsRow base e size v n xs) {k : Nat} {o : Obj} (hk : w.heap[k]? = some o) (ho : o.isCells = false) : some k ≠ v.ownBlock := by
  rcases h.2 with ⟨rfl, _⟩ | ⟨g, cap, cur, rfl, _, hh, _⟩
  · simp [Value.ownBlock]
  · intro e
    obtain rfl : k = g := by simpa [Value.ownBlock] using e
    rw [hh] at hk; cases hk; cases ho
theorem own_above {w : World} {base n : Nat} {e : TypeId} {size : Nat} {v : Value} {xs : List Value} (h : w.ownsRow base e size v n xs) {k : Nat} (hk : k < base) : some k ≠ v.ownBlock := fun e => by
  have := (h.lt k e.symm).1
  omega
theorem Put.others {n0 Bc Bo n c : Nat} {vo vc : Value} {ws : List Nat} {W W' : World} (hP : Put n0 Bc Bo vo n ws c W W') {t t' e m : Nat} {xs : List Value} (h1 : Boxed W Bc t vc) (h2 : Boxed W Bo t' vo) (hrow : W.ownsRow n0 e 1 vo m xs) : KeepsOthers W W' :=
  ⟨hP.size, fun k o hk ho => (hP.rest k (Array.getElem?_eq_some_iff.1 hk).1 (by rintro rfl; rw [show W.heap[k]? = _ from h1] at hk; cases hk; cases ho) (by rintro rfl; rw [show W.heap[k]? = _ from h2] at hk; cases hk; cases ho) (own_cells hrow hk ho)).trans hk⟩
theorem Put.kept {n0 Bc Bo n c : Nat} {vo : Value} {ws : List Nat} {W W' : World} (hP : Put n0 Bc Bo vo n ws c W W') {e m : Nat} {xs : List Value} (hrow : W.ownsRow n0 e 1 vo m xs) (hn : n0 ≤ W.heap.size) : Kept (fun k => k < n0 ∧ k ≠ Bo ∧ k ≠ Bc) W W' :=
  fun k hk => hP.rest k (by omega) hk.2.2 hk.2.1 (own_above hrow hk.1)
theorem Put.below {n0 Bc Bo n c B : Nat} {vo : Value} {ws : List Nat} {W W' : World} (hP : Put n0 Bc Bo vo n ws c W W') {e m : Nat} {xs : List Value} (hrow : W.ownsRow n0 e 1 vo m xs) (hn : n0 ≤ W.heap.size) (h0 : B ≤ n0) (h1 : B ≤ Bc) (h2 : B ≤ Bo) : Below B W W' :=
  ⟨hP.os, hP.tape, hP.output, hP.size, fun k hk => hP.rest k (by omega) (by omega) (by omega) (own_above hrow (by omega))⟩
theorem own_cap {w : World} {base n g cap : Nat} {e : TypeId} {size : Nat} {xs : List Value} (h : w.ownsRow base e size (.slice (some ⟨g, 0, none⟩) n cap) n xs) : n ≤ cap ∧ cap ≤ maxLen := by
  rcases h.2 with ⟨he, _⟩ | ⟨g', cap', cur, he, _, _, h1, h2, _⟩
  · cases he
  · cases he; exact ⟨h1, h2⟩
theorem own_slice {w : World} {base n : Nat} {e : TypeId} {size : Nat} {v : Value} {xs : List Value} (h : w.ownsRow base e size v n xs) : ∃ A c, v = .slice A n c := by
  rcases h.2 with ⟨rfl, rfl⟩ | ⟨g, cap, cur, rfl, _⟩
  · exact ⟨none, 0, rfl⟩
  · exact ⟨_, cap, rfl⟩
set_option maxHeartbeats 1000000 in
theorem put_calls (v c n0 Bc Bo n : Nat) (vo : Value) (ws : List Nat) (W : World) (hv : v + c < 18446744073709551616) (h1 : Boxed W Bc 131 (.int .u64 (c : Int))) (h2 : Boxed W Bo 39 vo)
    (hne : Bc ≠ Bo) (hrow : W.ownsRow n0 100 1 vo n (ws.map encW)) (hn0 : n0 ≤ W.heap.size) (hlen : n + 1 ≤ 35184372088832) :
    Calls Try.prog 176 #[.int .u64 (v : Int), .pointer (some ⟨Bc, 0, none⟩), .pointer (some ⟨Bo, 0, none⟩)] W fun e W' =>
      e = .returned (.tuple #[]) ∧ Put n0 Bc Bo vo (n + 1) (ws ++ [(v + c) % 4294967296]) ((v + c) / 4294967296) W W' := by
  obtain ⟨oA, oc, rfl⟩ := own_slice hrow
  have c1 := h1.cell
  have f1 := h1.frozen
  have c2 := h2.cell
  have f2 := h2.frozen
  have HL := Lib.hid hlen
  have HV := Lib.hid hv
  have e1 : IntKind.u64.wrap ((v : Int) + (c : Int)) = ((v + c : Nat) : Int) := by
    have := HV.out
    simp only [IntKind.wrap]; simp [IntKind.bits, IntKind.signed]; omega
  have hsum : v + c = v + c := rfl
  generalize v + c = s at *
  clear hsum
  clear hlen hv
  obtain ⟨i0, hi, hz0, hz1, hz2⟩ := info_parts info_u32
  go_enter Try.func176, Try.ntmps176
  go_wp2_with (at_builtin; refine wpList_append_own _ rfl _ _ 39 rfl n0 100 i0 (.int .u32 0) 1 4 und_words hi hz0 hz1 hz2 rfl (by decide) (.slice oA n oc) n (ws.map encW) rfl (hrow.alloc _) ⟨W.heap.size, 0, none⟩ 1 1 [.int .u32 ((s : Int) % 4294967296)] rfl rfl (cell_one_new _ _ _) (by simp [Value.oneCell']) (by have := HL.out; unfold maxLen; omega) (by have := HL.out; omega) (by simp; omega) ?_; intro vo' w1 hown hg _; obtain ⟨g', cap', rfl⟩ := ownsRow_succ hown; have b1 := (h1.alloc _).kept hg (h1.not_row (by decide) hrow); have b2 := (h2.alloc _).kept hg (h2.not_row (by decide) hrow); have c3 := b1.cell; have f3 := b1.frozen; have c4 := b2.cell; have f4 := b2.frozen; clear c1 c2 f1 f2)
  go_end0
  have hw : List.map encW ws ++ [Value.int .u32 ((s : Int) % 4294967296)] = (ws ++ [s % 4294967296]).map encW := by simp [encW]
  rw [hw] at hown
  refine ⟨rfl, ?_, ⟨.slice (some ⟨g', 0, none⟩) (n + 1) cap', ?_, ?_⟩, ?_, ?_, ?_, ?_, ?_⟩
  · have := ((b1.kept (grownBy_setCell' w1 Bo (.slice (some ⟨g', 0, none⟩) (n + 1) cap')) (by simp; exact hne)).set (.int .u64 ((s : Int) / 4294967296)))
    simpa using this
  · exact (b2.set _).kept (grownBy_setCell' _ Bc _) (by simp; exact fun h => hne h.symm)
  · refine (hown.kept (grownBy_setCell' w1 Bo _) (.inr ?_)).kept (grownBy_setCell' _ Bc _) (.inr ?_)
    · exact (b2.not_row (by decide) hown).symm
    · exact (b1.not_row (by decide) hown).symm
  · simp only [World.setCell, Array.size_modify]
    have := hg.size; simp at this; omega
  · intro k hk hkc hko hkr
    rw [Below.heap_setCell _ _ _ _ hkc, Below.heap_setCell _ _ _ _ hko]
    exact (hg.block k (by simp; omega) hkr).trans (Below.heap_alloc _ _ _ hk)
  · exact hg.os
  · exact hg.tape
  · exact hg.output
set_option maxHeartbeats 1000000 in
theorem all_calls (c n0 Bc Bo n : Nat) (vo : Value) (ws : List Nat) (W : World) (h1 : Boxed W Bc 131 (.int .u64 (c : Int))) (h2 : Boxed W Bo 39 vo)
    (hrow : W.ownsRow n0 100 1 vo n (ws.map encW)) (hn0 : n0 ≤ W.heap.size) (hlen : n + 1 ≤ 35184372088832) :
    Calls Try.prog 177 #[.pointer (some ⟨Bo, 0, none⟩), .pointer (some ⟨Bc, 0, none⟩)] W fun e W' => ∃ v, e = .returned v ∧ W'.ownsRow n0 100 1 v (n + 1) ((ws ++ [c % 4294967296]).map encW) ∧ W.grownBy W' vo.ownBlock := by
  obtain ⟨oA, oc, rfl⟩ := own_slice hrow
  have c1 := h1.cell
  have c2 := h2.cell
  have HL := Lib.hid hlen
  clear hlen
  obtain ⟨i0, hi, hz0, hz1, hz2⟩ := info_parts info_u32
  go_enter Try.func177, Try.ntmps177
  go_wp2_with (at_builtin; refine wpList_append_own _ rfl _ _ 39 rfl n0 100 i0 (.int .u32 0) 1 4 und_words hi hz0 hz1 hz2 rfl (by decide) (.slice oA n oc) n (ws.map encW) rfl (hrow.alloc _) ⟨W.heap.size, 0, none⟩ 1 1 [.int .u32 ((c : Int) % 4294967296)] rfl rfl (cell_one_new _ _ _) (by simp [Value.oneCell']) (by have := HL.out; unfold maxLen; omega) (by have := HL.out; omega) (by simp; omega) ?_; intro vo' w1 hown hg _; obtain ⟨g', cap', rfl⟩ := ownsRow_succ hown; clear c1 c2)
  go_ret
  refine ⟨_, rfl, ?_, World.grownBy.trans (World.grownBy_alloc W _ _) hg⟩
  have hw : List.map encW ws ++ [Value.int .u32 ((c : Int) % 4294967296)] = (ws ++ [c % 4294967296]).map encW := by simp [encW]
  rw [hw] at hown
  exact hown
end Go.Proofs.Ytnmmgegnioihmaa
