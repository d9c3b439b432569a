/- Package whole: subtraction of magnitudes. -/
import Derived.Test.YtnmmgegnioihmaaAdd
set_option linter.unusedVariables false
set_option linter.unusedSimpArgs false
namespace Go.Proofs.Ytnmmgegnioihmaa
open Go.RowKit Go.Shelf

attribute [local go_sem] Oper.semAt_some

def difs (pre : List Wp) : List Nat := 4294967296 :: pre.map fun x => subD x.1.1 x.1.2
theorem difs_snoc (pre : List Wp) (x : Wp) : difs (pre ++ [x]) = difs pre ++ [subD x.1.1 x.1.2] := by simp [difs]
theorem difs_side {us vs : List Nat} (ru : Rng us) (rv : Rng vs) (k : Nat) : difs (sideBy ru rv k) = 4294967296 :: digs us vs subD k := by simp [difs, sideBy, digs]
theorem difs_len (pre : List Wp) : (difs pre).length = pre.length + 1 := by simp [difs]
theorem difs_lt (pre : List Wp) : ∀ v ∈ difs pre, v < 8589934592 := fun v h => by
  rcases List.mem_cons.1 h with rfl | h
  · omega
  · obtain ⟨x, _, rfl⟩ := List.mem_map.1 h
    exact subD_lt x.2.1
theorem crun_first : crun [4294967296] = ([0], 1) := by decide +kernel
theorem subD_cast {x y : Nat} (hy : y < 4294967296) : (x : Int) + 4294967296 - 1 - (y : Int) = ((subD x y : Nat) : Int) := by unfold subD; omega
set_option maxRecDepth 100000 in
set_option maxHeartbeats 2000000 in
theorem whole_sub_calls (va vb : Value) (us vs : List Nat) (w : World) (ha : IsW w va us) (hb : IsW w vb vs) (hlen : max us.length vs.length + 2 ≤ 35184372088832) :
    Calls Try.prog 149 #[va, vb] w (PostW w (subW us vs)) := by
  obtain ⟨ru, A, ca, rfl, hra⟩ := ha
  obtain ⟨rv, B, cb, rfl, hrb⟩ := hb
  have HL := Lib.hid hlen
  clear hlen
  refine (callsIn_wide (n := 3)).1 ?_
  refine callsIn_of_wp_marks Try.func149 rfl trivial ?_ rfl
  simp only [Try.ntmps149, List.size_toArray, List.length_cons, List.length_nil, Nat.reduceAdd, Nat.reduceSub, Array.replicate_succ, Array.replicate_zero, List.push_toArray, List.append_toArray, List.nil_append, List.cons_append]
  gi_wp2_with (first
    | (refine ⟨trivial, ?_⟩; gi_at_call 167; refine (callsIn_wide.2 (carrier_calls _)).mono ?_; rintro e w' ⟨rfl, rfl⟩))
  generalize hV0 : World.alloc _ _ = V0
  have hbv : Below w.heap.size w V0 := by subst hV0; exact bl_alloc2 (bl_alloc2 (bl_alloc _ _) _) _
  have hzv : V0.heap.size = w.heap.size + 3 := by subst hV0; simp
  have gBo : Boxed V0 w.heap.size 39 (.slice none 0 0) := by subst hV0; exact ((Boxed.new w _ _).alloc _).alloc _
  have gBc : Boxed V0 (w.heap.size + 1) 131 (.int .u64 ((0 : Nat) : Int)) := by subst hV0; simpa using ((Boxed.new (w.alloc _) _ _).alloc _)
  have gBf : V0.cell? ⟨w.heap.size + 1 + 1, 0, none⟩ = some (.func (.func 176) #[] #[.pointer (some ⟨w.heap.size + 1, 0, none⟩), .pointer (some ⟨w.heap.size, 0, none⟩)]) := by subst hV0; go_simp
  clear hV0
  rw [show (4294967296 : Int) = ((4294967296 : Nat) : Int) from rfl]
  refine ⟨trivial, ?_⟩
  gi_at_call 176
  refine (callsIn_wide.2 (put_calls 4294967296 0 (w.heap.size + 3) _ _ 0 (.slice none 0 0) [] V0 (by omega) gBc gBo (by omega) (World.ownsRow_nil _ _ _ _) (by omega) (by have := HL.out; omega))).mono ?_
  rintro e V1 ⟨rfl, hP0⟩
  have hb1 : Below w.heap.size w V1 := hbv.trans (hP0.below (World.ownsRow_nil _ _ 100 _) (by omega) (by omega) (by omega) (by omega))
  have hz1 : w.heap.size + 3 ≤ V1.heap.size := by have := hP0.size; omega
  have hBf1 : V1.cell? ⟨w.heap.size + 1 + 1, 0, none⟩ = some (.func (.func 176) #[] #[.pointer (some ⟨w.heap.size + 1, 0, none⟩), .pointer (some ⟨w.heap.size, 0, none⟩)]) :=
    (World.cell?_of_block (w := V0) (hP0.rest (w.heap.size + 1 + 1) (by omega) (by omega) (by omega) (by simp [Value.ownBlock]))).trans gBf
  obtain ⟨vo1, hBo1, hrow1⟩ := hP0.out
  have hBc1 := hP0.carry
  clear gBo gBc gBf hP0 hbv hzv V0
  gi_wp2_with (first
    | (refine ⟨trivial, ?_⟩; gi_at_call 168; refine (callsIn_wide.2 (pairs_calls .nilFunc .nilFunc _ _ _ _ _ _ _)).mono ?_; rintro e w' ⟨rfl, rfl⟩))
  generalize hW0 : World.alloc _ _ = W0
  have hb0 : Below w.heap.size w W0 := by subst hW0; exact (hb1.alloc hb1.size _).alloc (by simp; omega) _
  have hz : W0.heap.size = V1.heap.size + 2 := by subst hW0; simp
  have hBo : Boxed W0 w.heap.size 39 vo1 := by subst hW0; exact (hBo1.alloc _).alloc _
  have hBc : Boxed W0 (w.heap.size + 1) 131 (.int .u64 ((crun (difs [])).2 : Int)) := by subst hW0; exact (hBc1.alloc _).alloc _
  have hrow : W0.ownsRow (w.heap.size + 3) 100 1 vo1 (([] : List Wp).length + 1) ((crun (difs [])).1.map encW) := by subst hW0; exact (hrow1.alloc _).alloc _
  have hBf : W0.cell? ⟨w.heap.size + 1 + 1, 0, none⟩ = some (.func (.func 176) #[] #[.pointer (some ⟨w.heap.size + 1, 0, none⟩), .pointer (some ⟨w.heap.size, 0, none⟩)]) := by subst hW0; exact (World.cell?_alloc_lt _ _ _ (by simp; omega)).trans ((World.cell?_alloc_lt _ _ _ (by simp; omega)).trans hBf1)
  have hBa : Boxed W0 V1.heap.size 39 (.slice A us.length ca) := by subst hW0; exact (Boxed.new V1 _ _).alloc _
  have hBb : Boxed W0 (V1.heap.size + 1) 39 (.slice B vs.length cb) := by subst hW0; simpa using Boxed.new (V1.alloc _) _ _
  clear hW0 hBo1 hBc1 hrow1 hBf1
  obtain ⟨S, hSdef⟩ : ∃ S : Nat → Prop, S = fun k => (k < w.heap.size + 3 ∧ k ≠ w.heap.size ∧ k ≠ w.heap.size + 1) ∨ k = V1.heap.size ∨ k = V1.heap.size + 1 := ⟨_, rfl⟩
  have hS : ∀ k, S k → k < W0.heap.size := fun k h => by subst hSdef; omega
  have sa : S V1.heap.size := by subst hSdef; exact .inr (.inl rfl)
  have sb : S (V1.heap.size + 1) := by subst hSdef; exact .inr (.inr rfl)
  have sw : ∀ k, k < w.heap.size → S k := fun k hk => by subst hSdef; exact .inl ⟨by omega, by omega, by omega⟩
  have sf : S (w.heap.size + 1 + 1) := by subst hSdef; exact .inl ⟨by omega, by omega, by omega⟩
  have keptPut : ∀ {W W' : World} {vo : Value} {n n' c : Nat} {ws : List Nat} {xs : List Value}, Kept S W0 W → W.ownsRow (w.heap.size + 3) 100 1 vo n xs → Put (w.heap.size + 3) (w.heap.size + 1) w.heap.size vo n' ws c W W' → W0.heap.size ≤ W.heap.size → Kept S W W' := by
    intro W W' vo n n' c ws xs hk hr hP hs k hSk
    have ka : Boxed W V1.heap.size 39 (.slice A us.length ca) := (hk _ sa).trans hBa
    have kb : Boxed W (V1.heap.size + 1) 39 (.slice B vs.length cb) := (hk _ sb).trans hBb
    have hlt := hS k hSk
    rw [hSdef] at hSk
    rcases hSk with ⟨g1, g2, g3⟩ | rfl | rfl
    · exact hP.rest k (by omega) (by omega) (by omega) (own_above hr g1)
    · exact hP.rest _ (by omega) (by omega) (by omega) (ka.not_row (by decide) hr)
    · exact hP.rest _ (by omega) (by omega) (by omega) (kb.not_row (by decide) hr)
  clear hSdef
  have hread : ∀ W', Kept S W0 W' → W'.cell? ⟨V1.heap.size, 0, none⟩ = some (.slice A us.length ca) ∧ W'.cell? ⟨V1.heap.size + 1, 0, none⟩ = some (.slice B vs.length cb) ∧ Row encW W' A ca us ∧ Row encW W' B cb vs := fun W' h =>
    ⟨(h.cell (p := ⟨V1.heap.size, 0, none⟩) sa).trans hBa.cell, (h.cell (p := ⟨V1.heap.size + 1, 0, none⟩) sb).trans hBb.cell,
      hra.same fun k hk => (h k (sw k hk)).trans (hb0.block k hk), hrb.same fun k hk => (h k (sw k hk)).trans (hb0.block k hk)⟩
  refine wpIn_rangeFunc_ownF rfl (by omega) (gf := 178) (lb := #[.pointer (some ⟨V1.heap.size, 0, none⟩), .pointer (some ⟨V1.heap.size + 1, 0, none⟩)]) rfl trivial (enters_of Try.func178 (by kernel_rfl) rfl)
    (pairs_stops _ _ ca cb A B us vs ru rv S W0 hS hread) (fun h k => h.trans k) (kept_b hS) (Below.refl _ _) (fun _ => rfl)
    (fun pre W => (Boxed W (w.heap.size + 1) 131 (.int .u64 ((crun (difs pre)).2 : Int)) ∧ (∃ v, Boxed W w.heap.size 39 v ∧ W.ownsRow (w.heap.size + 3) 100 1 v (pre.length + 1) ((crun (difs pre)).1.map encW) ∧ True)) ∧ Kept S W0 W ∧ W0.heap.size ≤ W.heap.size ∧ Below w.heap.size w W)
    (fun _ _ _ => False) ?hI (fun _ _ _ _ _ h _ _ => h) ?h0
    (fun x => { tmps := #[.slice A us.length ca, .slice B vs.length cb, undef, undef, .slice none 0 0, .pointer (some ⟨w.heap.size + 1 + 1, 0, none⟩),
      .func (.func 177) #[] #[.pointer (some ⟨w.heap.size, 0, none⟩), .pointer (some ⟨w.heap.size + 1, 0, none⟩)], .int .u64 (x.1.1 : Int), .int .u64 (x.1.2 : Int), undef,
      .tuple #[.func (.func 176) #[] #[.pointer (some ⟨w.heap.size + 1, 0, none⟩), .pointer (some ⟨w.heap.size, 0, none⟩)], .func (.func 177) #[] #[.pointer (some ⟨w.heap.size, 0, none⟩), .pointer (some ⟨w.heap.size + 1, 0, none⟩)]],
      .tuple #[.func (.func 176) #[] #[.pointer (some ⟨w.heap.size + 1, 0, none⟩), .pointer (some ⟨w.heap.size, 0, none⟩)], .func (.func 177) #[] #[.pointer (some ⟨w.heap.size, 0, none⟩), .pointer (some ⟨w.heap.size + 1, 0, none⟩)]],
      .func (.func 176) #[] #[.pointer (some ⟨w.heap.size + 1, 0, none⟩), .pointer (some ⟨w.heap.size, 0, none⟩)], .func (.func 177) #[] #[.pointer (some ⟨w.heap.size, 0, none⟩), .pointer (some ⟨w.heap.size + 1, 0, none⟩)],
      .func (.func 176) #[] #[.pointer (some ⟨w.heap.size + 1, 0, none⟩), .pointer (some ⟨w.heap.size, 0, none⟩)], .tuple #[],
      .slice A us.length ca, .slice B vs.length cb, .func (.func 178) #[] #[.pointer (some ⟨V1.heap.size, 0, none⟩), .pointer (some ⟨V1.heap.size + 1, 0, none⟩)],
      .int .u64 (x.1.1 : Int), .int .u64 (x.1.2 : Int), undef, undef, undef, undef, undef, undef, undef, undef, undef, undef, undef, undef, undef, undef], defers := [] }) ?assign ?body ?done ?stop
  case hI =>
    refine OwnFrom.and (Own.from ?_ _) (OwnFrom.and ?_ (OwnFrom.and ?_ (ownFrom_below (Nat.le_refl _) (by omega))))
    · intro s X Y row hs hg hr
      exact ⟨boxed_own _ _ (fun s => .int .u64 ((crun (difs s)).2 : Int)) s X Y row hs.1 hg hr, holdsRow_own _ _ _ _ _ (fun s => s.length + 1) (fun s => (crun (difs s)).1.map encW) (fun _ _ => True) s X Y row hs.2 hg hr⟩
    · intro s X Y row hs hg hr k hk
      refine (hg.block k ?_ ?_).trans (hs k hk)
      · have h1 := hs k hk
        rw [Array.getElem?_eq_getElem (hS k hk)] at h1
        exact (Array.getElem?_eq_some_iff.1 h1).1
      · intro e; have := (hr k e.symm).1; have := hS k hk; omega
    · intro s X Y row hs hg hr
      exact Nat.le_trans hs hg.size
  case h0 => exact ⟨⟨hBc, _, hBo, hrow, trivial⟩, Kept.refl _ _, Nat.le_refl _, hb0⟩
  case assign =>
    intro l x W K hK
    gi_wp2
    exact hK
  case body =>
    rintro l pre x W ⟨⟨h1, vo, h2, hrow, -⟩, hk, hsz, hbl⟩ hlt
    obtain ⟨⟨x, y⟩, hx, hy⟩ := x
    have c5 := (hk.cell (p := ⟨w.heap.size + 1 + 1, 0, none⟩) sf).trans hBf
    have hc := crun_carry (difs_lt pre)
    have HC := Lib.hid hc
    have hd := Lib.hid (subD_cast (x := x) hy)
    have hdl := Lib.hid (subD_lt (x := x) (y := y) hx)
    clear hc
    dsimp only at hx hy
    gi_wp2_with fail
    rw [hd.out]
    refine ⟨trivial, ?_⟩
    gi_at_call 176
    refine (CallsIn.inRound l (callsIn_wide.2 (put_calls (subD x y) _ (w.heap.size + 3) _ _ _ vo _ W (by have := HC.out; have := hdl.out; omega) h1 h2 (by omega) hrow (by omega) (by have := HL.out; omega)))).mono ?_
    rintro e W' ⟨rfl, hP⟩
    gi_wp2
    refine ⟨hP.others h1 h2 hrow, keptPut hk hrow hP hsz, ⟨?_, ?_⟩, hk.trans (keptPut hk hrow hP hsz), Nat.le_trans hsz hP.size, hbl.trans (hP.below hrow (by omega) (by omega) (by omega) (by omega))⟩
    · rw [difs_snoc, crun_snoc]; exact hP.carry
    · obtain ⟨vo', h3, h4⟩ := hP.out
      rw [difs_snoc, crun_snoc]; exact ⟨vo', h3, by simpa using h4, trivial⟩
  case done =>
    rintro D xs W hD rfl ⟨⟨h1, vo, h2, hrow, -⟩, hk, hsz, hbl⟩ hK
    have h6 : (crun (difs (sideBy ru rv (max us.length vs.length)))).1 ++ [(crun (difs (sideBy ru rv (max us.length vs.length)))).2 % 4294967296] = subAll us vs := by rw [difs_side]; rfl
    rw [sideBy_length] at hrow
    generalize crun (difs (sideBy ru rv (max us.length vs.length))) = p at h1 hrow h6
    have H6 := Lib.hid h6
    obtain ⟨M, hM⟩ : ∃ M, M = max us.length vs.length := ⟨_, rfl⟩
    rw [← hM] at hrow
    have hMb : M + 2 ≤ 9223372036854775807 := by have := HL.out; omega
    have HN := Lib.hid hM
    clear h6 hM
    gi_wp2_with (refine ⟨trivial, ?_⟩; gi_at_call 177; refine (callsIn_wide.2 (all_calls _ (w.heap.size + 3) _ _ _ vo _ W h1 h2 hrow (by omega) (by have := HN.out; have := HL.out; omega))).mono ?_; rintro e W' ⟨v, rfl, hown, hg⟩; obtain ⟨g', cap', rfl⟩ := ownsRow_succ hown; obtain ⟨hcap, -⟩ := own_cap hown)
    have hK' : W'.heap[D]? = some (.deferred (some [])) := (hg.block D (Array.getElem?_eq_some_iff.1 hK).1 (own_cells hrow hK rfl)).trans hK
    refine ⟨by simp, .inl ⟨_, _, rfl, run_takeDeferred hK', ?_⟩⟩
    refine ⟨_, results_tmp rfl _ _ _, subW us vs, .slice (some ⟨g', 1, none⟩) M (cap' - 1), rfl, rfl, ?_, ?_⟩
    · have h5 := ownsRow_putObj hown (.deferred none) hK' rfl
      rw [H6.out] at h5
      obtain ⟨A', c', he, hl, hN⟩ := NRow.of_own h5
      injection he with e1 e2 e3
      subst e1; subst e3
      refine ⟨subW_rng _ _, _, _, by rw [subW_len, ← HN.out], ?_⟩
      unfold subW
      have h7 := (hN.take ((subAll us vs).length - 1)).mono (show w.heap.size ≤ w.heap.size + 3 by omega)
      generalize hxs : List.take ((subAll us vs).length - 1) (subAll us vs) = xs at *
      cases xs with
      | nil => have := congrArg List.length hxs; simp [subAll_len] at this
      | cons x xs => simpa using h7.drop1
    · exact (grown_below hbl hg hbl.size (fun k e => by have := (hrow.lt k e).1; omega)).grown (grownBy_putObj' W' D (.deferred none)) (by have := hbl.size; have := hg.size; omega) (fun k e => by cases e; omega)
  case stop =>
    rintro D c pre W _ _ h _
    exact h.elim
end Go.Proofs.Ytnmmgegnioihmaa
