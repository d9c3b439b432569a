/- Package whole: comparison of magnitudes. -/
import Derived.Test.YtnmmgegnioihmaaSub
set_option linter.unusedVariables false
set_option linter.unusedSimpArgs false
namespace Go.Proofs.Ytnmmgegnioihmaa
open Go.RowKit Go.Shelf

attribute [local go_sem] Oper.semAt_some

def cmps (pre : List Wp) : Int := pre.foldl (fun c x => cmpD c x.1.1 x.1.2) 0
theorem cmps_snoc (pre : List Wp) (x : Wp) : cmps (pre ++ [x]) = cmpD (cmps pre) x.1.1 x.1.2 := by simp [cmps]
theorem cmps_side {us vs : List Nat} (ru : Rng us) (rv : Rng vs) (k : Nat) : cmps (sideBy ru rv k) = cmpRun us vs k := by
  induction k with
  | zero => rfl
  | succ k ih => rw [sideBy_succ, cmps_snoc, ih, cmpRun_succ]
set_option maxRecDepth 100000 in
set_option maxHeartbeats 2000000 in
theorem whole_cmp_calls (va vb : Value) (us vs : List Nat) (w : World) (ha : IsW w va us) (hb : IsW w vb vs) :
    Calls Try.prog 148 #[va, vb] w fun e w' => e = .returned (.int .i64 (cmpW us vs)) ∧ Below w.heap.size w w' := by
  obtain ⟨ru, A, ca, rfl, hra⟩ := ha
  obtain ⟨rv, B, cb, rfl, hrb⟩ := hb
  have la : us.length ≤ 9223372036854775807 := Nat.le_trans hra.le (by have := hra.mx; unfold maxLen at this; omega)
  have lb : vs.length ≤ 9223372036854775807 := Nat.le_trans hrb.le (by have := hrb.mx; unfold maxLen at this; omega)
  by_cases hl : us.length = vs.length
  · have hq : (((us.length : Int) - (vs.length : Int)) != 0) = false := by rw [hl]; simp
    have hq2 : ((us.length : Int) - (vs.length : Int)) = 0 := by omega
    have hfin : cmpW us vs = cmps (sideBy ru rv (max us.length vs.length)) := by rw [cmps_side]; unfold cmpW; rw [if_pos hl]; congr 1; omega
    have HF := Lib.hid hfin
    clear hl hfin
    refine (callsIn_wide (n := 3)).1 ?_
    refine callsIn_of_wp_marks Try.func148 rfl trivial ?_ rfl
    simp only [Try.ntmps148, List.size_toArray, List.length_cons, List.length_nil, Nat.reduceAdd, Nat.reduceSub, Array.replicate_succ, Array.replicate_zero, List.push_toArray, List.append_toArray, List.nil_append, List.cons_append]
    gi_wp2_with (refine ⟨trivial, ?_⟩; gi_at_call 168; refine (callsIn_wide.2 (pairs_calls .nilFunc .nilFunc _ _ _ _ _ _ _)).mono ?_; rintro e w' ⟨rfl, rfl⟩)
    generalize hW0 : World.alloc _ _ = W0
    have hb0 : Below w.heap.size w W0 := by subst hW0; exact bl_alloc2 (bl_alloc2 (bl_alloc _ _) _) _
    have hz : W0.heap.size = w.heap.size + 3 := by subst hW0; simp
    have hBc : Boxed W0 w.heap.size 3 (.int .i64 0) := by subst hW0; exact ((Boxed.new w _ _).alloc _).alloc _
    have hBa : W0.cell? ⟨w.heap.size + 1, 0, none⟩ = some (.slice A us.length ca) := by subst hW0; go_simp
    have hBb : W0.cell? ⟨w.heap.size + 1 + 1, 0, none⟩ = some (.slice B vs.length cb) := by subst hW0; go_simp
    clear hW0 hq hq2
    have hS : ∀ k, (k < W0.heap.size ∧ k ≠ w.heap.size) → k < W0.heap.size := fun k h => h.1
    have hread : ∀ W', Kept (fun k => k < W0.heap.size ∧ k ≠ w.heap.size) W0 W' → W'.cell? ⟨w.heap.size + 1, 0, none⟩ = some (.slice A us.length ca) ∧ W'.cell? ⟨w.heap.size + 1 + 1, 0, none⟩ = some (.slice B vs.length cb) ∧ Row encW W' A ca us ∧ Row encW W' B cb vs := fun W' h =>
      ⟨(h.cell (p := ⟨w.heap.size + 1, 0, none⟩) ⟨by dsimp only; omega, by dsimp only; omega⟩).trans hBa, (h.cell (p := ⟨w.heap.size + 1 + 1, 0, none⟩) ⟨by dsimp only; omega, by dsimp only; omega⟩).trans hBb,
        hra.same fun k hk => (h k ⟨by omega, by omega⟩).trans (hb0.block k hk), hrb.same fun k hk => (h k ⟨by omega, by omega⟩).trans (hb0.block k hk)⟩
    refine wpIn_rangeFunc_ownF rfl (by omega) (gf := 178) (lb := #[.pointer (some ⟨w.heap.size + 1, 0, none⟩), .pointer (some ⟨w.heap.size + 1 + 1, 0, none⟩)]) rfl trivial (enters_of Try.func178 (by kernel_rfl) rfl)
      (pairs_stops _ _ ca cb A B us vs ru rv _ W0 hS hread) (fun h k => h.trans k) (kept_b hS) (Below.refl _ _) (fun _ => rfl)
      (fun pre W => Boxed W w.heap.size 3 (.int .i64 (cmps pre)) ∧ Below w.heap.size w W)
      (fun _ _ _ => False) ?hI (fun _ _ _ _ _ h _ _ => h) ⟨hBc, hb0⟩
      (fun x => { tmps := #[.slice A us.length ca, .slice B vs.length cb, undef, undef, .int .i64 0, .int .i64 0, .pointer (some ⟨w.heap.size, 0, none⟩), .int .u64 (x.1.1 : Int), .int .u64 (x.1.2 : Int),
        .slice A us.length ca, .int .i64 us.length, .slice B vs.length cb, .int .i64 vs.length, .int .i64 0, .int .i64 0, .bool false, undef, .slice A us.length ca, .slice B vs.length cb,
        .func (.func 178) #[] #[.pointer (some ⟨w.heap.size + 1, 0, none⟩), .pointer (some ⟨w.heap.size + 1 + 1, 0, none⟩)],
        .int .u64 (x.1.1 : Int), .int .u64 (x.1.2 : Int), undef, undef, undef, undef, undef, undef, undef, undef, undef], defers := [] }) ?assign ?body ?done ?stop
    case hI => exact OwnFrom.and (Own.from (boxed_own _ _ (fun s => .int .i64 (cmps s))) _) (ownFrom_below (Nat.le_refl _) (by omega))
    case assign =>
      intro l x W K hK
      gi_wp2
      exact hK
    case body =>
      rintro l pre x W ⟨h1, hbl⟩ hlt
      obtain ⟨⟨x, y⟩, hx, hy⟩ := x
      have c1 := h1.cell
      have f1 := h1.frozen
      dsimp only at hx hy
      have keep : ∀ (v : Value), Kept (fun k => k < W0.heap.size ∧ k ≠ w.heap.size) W (W.setCell ⟨w.heap.size, 0, none⟩ v) := fun v k hk => Below.heap_setCell _ _ _ _ hk.2
      by_cases h2 : x < y
      · gi_wp2
        refine ⟨KeepsOthers.setCell _ _ _, keep _, ?_, hbl.setCell (Nat.le_refl _) _⟩
        rw [cmps_snoc]
        have h3 := h1.set (.int .i64 (-1))
        unfold cmpD
        rw [if_pos h2]
        exact h3
      · by_cases h4 : y < x
        · gi_wp2
          refine ⟨KeepsOthers.setCell _ _ _, keep _, ?_, hbl.setCell (Nat.le_refl _) _⟩
          rw [cmps_snoc]
          have h3 := h1.set (.int .i64 1)
          unfold cmpD
          rw [if_neg h2, if_pos h4]
          exact h3
        · gi_wp2
          refine ⟨KeepsOthers.refl _, Kept.refl _ _, ?_, hbl⟩
          rw [cmps_snoc]
          unfold cmpD
          rw [if_neg h2, if_neg h4]
          exact h1
    case done =>
      rintro D xs W hD rfl ⟨h1, hbl⟩ hK
      rw [← HF.out] at h1
      have c1 := h1.cell
      gi_wp2
      refine ⟨by simp, .inl ⟨_, _, rfl, run_takeDeferred hK, ?_⟩⟩
      exact ⟨_, results_tmp rfl _ _ _, rfl, hbl.grown (grownBy_putObj' W D (.deferred none)) hbl.size (fun k e => by cases e; omega)⟩
    case stop =>
      rintro D c pre W _ _ h _
      exact h.elim
  · have hq : (((us.length : Int) - (vs.length : Int)) != 0) = true := by simp; omega
    have hfin : cmpW us vs = (us.length : Int) - (vs.length : Int) := by unfold cmpW; rw [if_neg hl]
    have HF := Lib.hid hfin
    clear hl hfin
    go_enter Try.func148, Try.ntmps148
    go_wp2
    go_ret
    exact ⟨ret_int HF.out.symm, Below.refl _ _⟩
end Go.Proofs.Ytnmmgegnioihmaa
