/- Package settle: Units, Bids. -/
import Derived.Test.YtnmmgegnioihmaaSett3
set_option linter.unusedVariables false
set_option linter.unusedSimpArgs false
namespace Go.Proofs.Ytnmmgegnioihmaa
open Go.RowKit

theorem PostAll.up {w w0 w' : World} {xs : List Int} {P P' G G' : List Qr} {M : Nat} {e : Ending} (h : PostAll w0 xs P P' G G' M e w') (hb : Below w.heap.size w w0) : PostAll w xs P P' G G' M e w' := by
  obtain ⟨v, c, e, hb', h⟩ := h
  refine ⟨v, c, e, bl_trans hb hb', ?_⟩
  rcases h with ⟨h1, h2, l, h3, h4, h5⟩ | h
  · exact .inl ⟨h1, h2, l, h3, h4, h5.mono hb.size⟩
  · exact .inr h
set_option maxHeartbeats 2000000 in
theorem settle_Units_calls (A : Option Addr) (ac : Nat) (xs : List Int) (P1 P2 G1 G2 T1 T2 : Option Addr) (p1 p2 g1 g2 t1 t1' t2 t2' : Nat) (P P' G G' : List Qr) (M : Nat) (w : World) (hxs : Row enc64 w A ac xs) (hxl : xs.length ≤ 65536)
    (hP : QRow w P1 p1 P) (hP' : QRow w P2 p2 P') (hG : QRow w G1 g1 G) (hG' : QRow w G2 g2 G') (sP : ∀ q ∈ P, q.S ≤ M) (sP' : ∀ q ∈ P', q.S ≤ M) (sG : ∀ q ∈ G, q.S ≤ M) (sG' : ∀ q ∈ G', q.S ≤ M) (h1 : 1 ≤ M) (hM : M ≤ 274877906944) :
    Calls Try.prog 27 #[.slice A xs.length ac, .agg #[.slice P1 P.length p1, .slice G1 G.length g1, .slice T1 t1 t1'], .agg #[.slice P2 P'.length p2, .slice G2 G'.length g2, .slice T2 t2 t2']] w (PostAll w xs P P' G G' (5 * M + 3)) := by
  have HS := Lib.hid (And.intro sP (And.intro sP' (And.intro sG sG')))
  clear sP sP' sG sG'
  go_enter Try.func27, Try.ntmps27
  go_wp2_with (go_at_call 92; generalize hw0 : World.alloc _ _ = w0
               have hb0 : Below w.heap.size w w0 := by subst hw0; exact bl_alloc2 (bl_alloc _ _) _
               clear hw0
               refine (all_Units_calls A ac xs P1 P2 G1 G2 T1 T2 _ _ _ _ _ _ _ _ P P' G G' M w0 (hxs.below hb0) hxl (hP.below hb0) (hP'.below hb0) (hG.below hb0) (hG'.below hb0) HS.out.1 HS.out.2.1 HS.out.2.2.1 HS.out.2.2.2 h1 hM).mono ?_; rintro e w1 hp; have hp1 := hp.up hb0; obtain ⟨v, c, rfl, hq⟩ := hp1)
  exact bodyPost_ret (v := .tuple #[v, .int .i64 c]) (by simp [results, Try.results27, go_sem]) rfl ⟨v, c, rfl, hq⟩
set_option maxHeartbeats 2000000 in
theorem settle_Bids_calls (A : Option Addr) (ac : Nat) (xs : List Int) (P1 P2 G1 G2 T1 T2 : Option Addr) (p1 p2 g1 g2 t1 t1' t2 t2' : Nat) (P P' G G' : List Qr) (M : Nat) (w : World) (hxs : Row enc64 w A ac xs) (hxl : xs.length ≤ 65536)
    (hP : QRow w P1 p1 P) (hP' : QRow w P2 p2 P') (hG : QRow w G1 g1 G) (hG' : QRow w G2 g2 G') (sP : ∀ q ∈ P, q.S ≤ M) (sP' : ∀ q ∈ P', q.S ≤ M) (sG : ∀ q ∈ G, q.S ≤ M) (sG' : ∀ q ∈ G', q.S ≤ M) (h1 : 1 ≤ M) (hM : M ≤ 274877906944) :
    Calls Try.prog 28 #[.slice A xs.length ac, .agg #[.slice P1 P.length p1, .slice T1 t1 t1', .slice G1 G.length g1], .agg #[.slice P2 P'.length p2, .slice T2 t2 t2', .slice G2 G'.length g2]] w (PostAll w xs P P' G G' (5 * M + 3)) := by
  have HS := Lib.hid (And.intro sP (And.intro sP' (And.intro sG sG')))
  clear sP sP' sG sG'
  go_enter Try.func28, Try.ntmps28
  go_wp2_with (go_at_call 92; generalize hw0 : World.alloc _ _ = w0
               have hb0 : Below w.heap.size w w0 := by subst hw0; exact bl_alloc2 (bl_alloc _ _) _
               clear hw0
               refine (all_Bids_calls A ac xs P1 P2 G1 G2 T1 T2 _ _ _ _ _ _ _ _ P P' G G' M w0 (hxs.below hb0) hxl (hP.below hb0) (hP'.below hb0) (hG.below hb0) (hG'.below hb0) HS.out.1 HS.out.2.1 HS.out.2.2.1 HS.out.2.2.2 h1 hM).mono ?_; rintro e w1 hp; have hp1 := hp.up hb0; obtain ⟨v, c, rfl, hq⟩ := hp1)
  exact bodyPost_ret (v := .tuple #[v, .int .i64 c]) (by simp [results, Try.results28, go_sem]) rfl ⟨v, c, rfl, hq⟩
end Go.Proofs.Ytnmmgegnioihmaa
