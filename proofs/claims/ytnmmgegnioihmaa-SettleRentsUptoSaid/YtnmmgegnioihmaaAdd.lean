/- Package whole: addition of magnitudes. -/
import Derived.Test.YtnmmgegnioihmaaCarry
import Derived.Test.YtnmmgegnioihmaaDigits
set_option linter.unusedVariables false
set_option linter.unusedSimpArgs false
namespace Go.Proofs.Ytnmmgegnioihmaa
open Go.RowKit Go.Shelf

attribute [local go_sem] Oper.semAt_some

def sums (pre : List Wp) : List Nat := pre.map fun x => x.1.1 + x.1.2
theorem sums_snoc (pre : List Wp) (x : Wp) : sums (pre ++ [x]) = sums pre ++ [x.1.1 + x.1.2] := by simp [sums]
theorem sums_side {us vs : List Nat} (ru : Rng us) (rv : Rng vs) (k : Nat) : sums (sideBy ru rv k) = digs us vs (fun x y => x + y) k := by simp [sums, sideBy, digs]
theorem sums_lt (pre : List Wp) : ∀ v ∈ sums pre, v < 8589934592 := fun v h => by
  obtain ⟨x, _, rfl⟩ := List.mem_map.1 h
  have := x.2
  omega
set_option maxRecDepth 100000 in
set_option maxHeartbeats 2000000 in
theorem whole_add_calls (va vb : Value) (us vs : List Nat) (w : World) (ha : IsW w va us) (hb : IsW w vb vs) (hlen : max us.length vs.length + 1 ≤ 35184372088832) :
    Calls Try.prog 147 #[va, vb] w (PostW w (addW us vs)) := by
  obtain ⟨ru, A, ca, rfl, hra⟩ := ha
  obtain ⟨rv, B, cb, rfl, hrb⟩ := hb
  have HL := Lib.hid hlen
  clear hlen
  refine (callsIn_wide (n := 3)).1 ?_
  refine callsIn_of_wp_marks Try.func147 rfl trivial ?_ rfl
  simp only [Try.ntmps147, List.size_toArray, List.length_cons, List.length_nil, Nat.reduceAdd, Nat.reduceSub, Array.replicate_succ, Array.replicate_zero, List.push_toArray, List.append_toArray, List.nil_append, List.cons_append]
  gi_wp2_with (first
    | (refine ⟨trivial, ?_⟩; gi_at_call 167; refine (callsIn_wide.2 (carrier_calls _)).mono ?_; rintro e w' ⟨rfl, rfl⟩)
    | (refine ⟨trivial, ?_⟩; gi_at_call 168; refine (callsIn_wide.2 (pairs_calls .nilFunc .nilFunc _ _ _ _ _ _ _)).mono ?_; rintro e w' ⟨rfl, rfl⟩))
  generalize hW0 : World.alloc _ _ = W0
  have hb0 : Below w.heap.size w W0 := by subst hW0; exact bl_alloc2 (bl_alloc2 (bl_alloc2 (bl_alloc2 (bl_alloc _ _) _) _) _) _
  have hz : W0.heap.size = w.heap.size + 5 := by subst hW0; simp
  have hBo : Boxed W0 w.heap.size 39 (.slice none 0 0) := by subst hW0; exact ((((Boxed.new w _ _).alloc _).alloc _).alloc _).alloc _
  have hBc : Boxed W0 (w.heap.size + 1) 131 (.int .u64 0) := by subst hW0; simpa using ((((Boxed.new (w.alloc _) _ _).alloc _).alloc _).alloc _)
  have hBf : W0.cell? ⟨w.heap.size + 1 + 1, 0, none⟩ = some (.func (.func 176) #[] #[.pointer (some ⟨w.heap.size + 1, 0, none⟩), .pointer (some ⟨w.heap.size, 0, none⟩)]) := by subst hW0; go_simp
  have hBa : W0.cell? ⟨w.heap.size + 1 + 1 + 1, 0, none⟩ = some (.slice A us.length ca) := by subst hW0; go_simp
  have hBb : W0.cell? ⟨w.heap.size + 1 + 1 + 1 + 1, 0, none⟩ = some (.slice B vs.length cb) := by subst hW0; go_simp
  clear hW0
  have hS : ∀ k, (k < W0.heap.size ∧ k ≠ w.heap.size ∧ k ≠ w.heap.size + 1) → k < W0.heap.size := fun k h => h.1
  have hread : ∀ W', Kept (fun k => k < W0.heap.size ∧ k ≠ w.heap.size ∧ k ≠ w.heap.size + 1) W0 W' → W'.cell? ⟨w.heap.size + 1 + 1 + 1, 0, none⟩ = some (.slice A us.length ca) ∧ W'.cell? ⟨w.heap.size + 1 + 1 + 1 + 1, 0, none⟩ = some (.slice B vs.length cb) ∧ Row encW W' A ca us ∧ Row encW W' B cb vs := fun W' h =>
    ⟨(h.cell (p := ⟨w.heap.size + 1 + 1 + 1, 0, none⟩) ⟨by dsimp only; omega, by dsimp only; omega, by dsimp only; omega⟩).trans hBa, (h.cell (p := ⟨w.heap.size + 1 + 1 + 1 + 1, 0, none⟩) ⟨by dsimp only; omega, by dsimp only; omega, by dsimp only; omega⟩).trans hBb,
      hra.same fun k hk => (h k ⟨by omega, by omega, by omega⟩).trans (hb0.block k hk), hrb.same fun k hk => (h k ⟨by omega, by omega, by omega⟩).trans (hb0.block k hk)⟩
  refine wpIn_rangeFunc_ownF rfl (by omega) (gf := 178) (lb := #[.pointer (some ⟨w.heap.size + 1 + 1 + 1, 0, none⟩), .pointer (some ⟨w.heap.size + 1 + 1 + 1 + 1, 0, none⟩)]) rfl trivial (enters_of Try.func178 (by kernel_rfl) rfl)
    (pairs_stops _ _ ca cb A B us vs ru rv _ W0 hS hread) (fun h k => h.trans k) (kept_b hS) (Below.refl _ _) (fun _ => rfl)
    (fun pre W => (Boxed W (w.heap.size + 1) 131 (.int .u64 ((crun (sums pre)).2 : Int)) ∧ (∃ v, Boxed W w.heap.size 39 v ∧ W.ownsRow W0.heap.size 100 1 v pre.length ((crun (sums pre)).1.map encW) ∧ True)) ∧ Kept (fun k => k < W0.heap.size ∧ k ≠ w.heap.size ∧ k ≠ w.heap.size + 1) W0 W ∧ W0.heap.size ≤ W.heap.size ∧ Below w.heap.size w W)
    (fun _ _ _ => False) ?hI (fun _ _ _ _ _ h _ _ => h) ?h0
    (fun x => { tmps := #[.slice A us.length ca, .slice B vs.length cb, undef, undef, .slice none 0 0, .pointer (some ⟨w.heap.size + 1 + 1, 0, none⟩),
      .func (.func 177) #[] #[.pointer (some ⟨w.heap.size, 0, none⟩), .pointer (some ⟨w.heap.size + 1, 0, none⟩)], .int .u64 (x.1.1 : Int), .int .u64 (x.1.2 : Int),
      .tuple #[.func (.func 176) #[] #[.pointer (some ⟨w.heap.size + 1, 0, none⟩), .pointer (some ⟨w.heap.size, 0, none⟩)], .func (.func 177) #[] #[.pointer (some ⟨w.heap.size, 0, none⟩), .pointer (some ⟨w.heap.size + 1, 0, none⟩)]],
      .tuple #[.func (.func 176) #[] #[.pointer (some ⟨w.heap.size + 1, 0, none⟩), .pointer (some ⟨w.heap.size, 0, none⟩)], .func (.func 177) #[] #[.pointer (some ⟨w.heap.size, 0, none⟩), .pointer (some ⟨w.heap.size + 1, 0, none⟩)]],
      .func (.func 176) #[] #[.pointer (some ⟨w.heap.size + 1, 0, none⟩), .pointer (some ⟨w.heap.size, 0, none⟩)], .func (.func 177) #[] #[.pointer (some ⟨w.heap.size, 0, none⟩), .pointer (some ⟨w.heap.size + 1, 0, none⟩)],
      .slice A us.length ca, .slice B vs.length cb, .func (.func 178) #[] #[.pointer (some ⟨w.heap.size + 1 + 1 + 1, 0, none⟩), .pointer (some ⟨w.heap.size + 1 + 1 + 1 + 1, 0, none⟩)],
      .int .u64 (x.1.1 : Int), .int .u64 (x.1.2 : Int), undef, undef, undef, undef, undef, undef, undef], defers := [] }) ?assign ?body ?done ?stop
  case hI =>
    refine OwnFrom.and (Own.from ?_ _) (OwnFrom.and ?_ (OwnFrom.and ?_ (ownFrom_below (Nat.le_refl _) (by omega))))
    · intro s X Y row hs hg hr
      exact ⟨boxed_own _ _ (fun s => .int .u64 ((crun (sums s)).2 : Int)) s X Y row hs.1 hg hr, holdsRow_own _ _ _ _ _ (fun s => s.length) (fun s => (crun (sums s)).1.map encW) (fun _ _ => True) s X Y row hs.2 hg hr⟩
    · intro s X Y row hs hg hr k hk
      refine (hg.block k ?_ ?_).trans (hs k hk)
      · have h1 := hs k hk
        rw [Array.getElem?_eq_getElem hk.1] at h1
        exact (Array.getElem?_eq_some_iff.1 h1).1
      · intro e; have := (hr k e.symm).1; omega
    · intro s X Y row hs hg hr
      exact Nat.le_trans hs hg.size
  case h0 => exact ⟨⟨hBc, _, hBo, World.ownsRow_nil _ _ _ _, trivial⟩, Kept.refl _ _, Nat.le_refl _, hb0⟩
  case assign =>
    intro l x W K hK
    gi_wp2
    exact hK
  case body =>
    rintro l pre x W ⟨⟨h1, vo, h2, hrow, -⟩, hk, hsz, hbl⟩ hlt
    obtain ⟨⟨x, y⟩, hx, hy⟩ := x
    have c5 := (hk.cell (p := ⟨w.heap.size + 1 + 1, 0, none⟩) ⟨by dsimp only; omega, by dsimp only; omega, by dsimp only; omega⟩).trans hBf
    have e1 : IntKind.u64.wrap ((x : Int) + (y : Int)) = ((x + y : Nat) : Int) := by
      simp only [IntKind.wrap]; simp [IntKind.bits, IntKind.signed]; omega
    have hc := crun_carry (sums_lt pre)
    have HC := Lib.hid hc
    clear hc
    gi_wp2_with fail
    rw [show ((x : Int) + (y : Int)) = ((x + y : Nat) : Int) from rfl]
    refine ⟨trivial, ?_⟩
    gi_at_call 176
    refine (CallsIn.inRound l (callsIn_wide.2 (put_calls (x + y) _ W0.heap.size _ _ _ vo _ W (by have := HC.out; dsimp only at hx hy; omega) h1 h2 (by omega) hrow hsz (by have := HL.out; omega)))).mono ?_
    rintro e W' ⟨rfl, hP⟩
    gi_wp2
    refine ⟨hP.others h1 h2 hrow, hP.kept hrow hsz, ⟨?_, ?_⟩, hk.trans (hP.kept hrow hsz), Nat.le_trans hsz hP.size, hbl.trans (hP.below hrow hsz (by omega) (by omega) (by omega))⟩
    · rw [sums_snoc, crun_snoc]; exact hP.carry
    · obtain ⟨vo', h3, h4⟩ := hP.out
      rw [sums_snoc, crun_snoc]; exact ⟨vo', h3, by simpa using h4, trivial⟩
  case done =>
    rintro D xs W hD rfl ⟨⟨h1, vo, h2, hrow, -⟩, hk, hsz, hbl⟩ hK
    gi_wp2_with (refine ⟨trivial, ?_⟩; gi_at_call 177; refine (callsIn_wide.2 (all_calls _ W0.heap.size _ _ _ vo _ W h1 h2 hrow hsz (by rw [sideBy_length]; exact HL.out))).mono ?_; rintro e W' ⟨v, rfl, hown, hg⟩)
    have hK' : W'.heap[D]? = some (.deferred (some [])) := (hg.block D (Array.getElem?_eq_some_iff.1 hK).1 (own_cells hrow hK rfl)).trans hK
    refine ⟨by simp, .inl ⟨_, _, rfl, run_takeDeferred hK', ?_⟩⟩
    refine ⟨_, results_tmp rfl _ _ _, addW us vs, v, rfl, rfl, ?_, ?_⟩
    · have h5 := ownsRow_putObj hown (.deferred none) hK' rfl
      obtain ⟨A', c', rfl, hl, hN⟩ := NRow.of_own h5
      have h6 : (crun (sums (sideBy ru rv (max us.length vs.length)))).1 ++ [(crun (sums (sideBy ru rv (max us.length vs.length)))).2 % 4294967296] = addW us vs := by rw [sums_side]; rfl
      rw [h6] at hN ⊢
      exact ⟨addW_rng _ _, A', c', rfl, hN.mono (by omega)⟩
    · exact (grown_below hbl hg hbl.size (fun k e => by have := (hrow.lt k e).1; omega)).grown (grownBy_putObj' W' D (.deferred none)) (by have := hbl.size; have := hg.size; omega) (fun k e => by cases e; omega)
  case stop =>
    rintro D c pre W _ _ h _
    exact h.elim
end Go.Proofs.Ytnmmgegnioihmaa
