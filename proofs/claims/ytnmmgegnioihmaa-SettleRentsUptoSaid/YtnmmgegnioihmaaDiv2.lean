/- Package whole: division of magnitudes. -/
import Derived.Test.YtnmmgegnioihmaaDiv1
set_option linter.unusedVariables false
set_option linter.unusedSimpArgs false
namespace Go.Proofs.Ytnmmgegnioihmaa
open Go.RowKit

theorem Own32.below {w0 w w' : World} {g n : Nat} {os : List Nat} (h : Own32 w0 w g n os) (hb : Below w.heap.size w w') : Own32 w0 w' g n os := by
  have hg : g < w.heap.size := (h.1.lt g rfl).2
  refine ⟨h.1.kept (row := none) ⟨hb.os, hb.tape, hb.output, hb.size, fun k hk _ => hb.block k hk⟩ (.inr (by simp [Value.ownBlock])), ?_, h.2.2⟩
  exact h.2.1.trans (hb.mono h.2.1.size)
theorem bl_grow {w w1 w1' w2 : World} {v : Value} {B : Nat} (h : Below w.heap.size w w1) (hB : w.heap.size + B ≤ w1.heap.size) (h1 : Below w1.heap.size w1 w1') (hg : w1'.grownBy w2 v.ownBlock) (hv : v.ownBlock = some w1.heap.size ∨ v.ownBlock = none := by simp [Value.ownBlock]) : Below w.heap.size w w2 := by
  refine ((bl_trans h h1)).grown hg (by have := h.size; have := h1.size; omega) (fun k e => ?_)
  rcases hv with hv | hv <;> rw [hv] at e
  · cases e; have := h.size; omega
  · cases e
theorem Own32.grown {w w1 w1' w2 : World} {g n : Nat} {os : List Nat} {v : Value} (h : Own32 w w1 g n os) (hs : w.heap.size + 1 ≤ w1.heap.size) (h1 : Below w1.heap.size w1 w1') (hg : w1'.grownBy w2 v.ownBlock) (hv : v.ownBlock = some w1.heap.size ∨ v.ownBlock = none := by simp [Value.ownBlock]) : Own32 w w2 g n os := by
  have hgl : g < w1.heap.size := (h.1.lt g rfl).2
  have hb : Below w1.heap.size w1 w2 := h1.grown hg h1.size (fun k e => by
    rcases hv with hv | hv <;> rw [hv] at e
    · cases e; exact Nat.le_refl _
    · cases e)
  refine ⟨h.1.kept (row := none) ⟨hb.os, hb.tape, hb.output, hb.size, fun k hk _ => hb.block k hk⟩ (.inr (by simp [Value.ownBlock])), ?_, h.2.2⟩
  exact bl_grow h.2.1 hs h1 hg hv
theorem NW.trim {n0 : Nat} {w : World} {A : Option Addr} {c n : Nat} {xs : List Nat} (h : NW n0 w (.slice A n c) xs) : NW n0 w (.slice A (trim xs).length c) (trim xs) := by
  obtain ⟨hr, A', c', e, hN⟩ := h
  injection e with e1 e2 e3
  subst e1; subst e3
  obtain ⟨k, hk, e⟩ := trim_prefix xs
  exact ⟨by rw [e]; exact hr.take k, _, _, rfl, by rw [e]; exact hN.take k⟩
/-- trim, of whatever slice value holds the words -/
theorem trim_calls {w : World} {v : Value} {xs : List Nat} (h : IsW w v xs) : Calls Try.prog 144 #[v] w fun e w' => ∃ v', e = .returned v' ∧ w = w' ∧ IsW w v' (trim xs) ∧ ∀ n0, NW n0 w v xs → NW n0 w v' (trim xs) := by
  obtain ⟨hr, A, c, rfl, hrow⟩ := h
  refine (trim_at A c xs w hrow).mono fun e w' ⟨he, hw⟩ => ⟨_, he, hw, ?_, fun n0 hN => hN.trim⟩
  obtain ⟨k, hk, e⟩ := trim_prefix xs
  exact ⟨by rw [e]; exact hr.take k, A, c, rfl, by rw [e]; exact hrow.take k⟩
theorem NRow.none_nil {α : Type} {enc : α → Value} {n0 : Nat} {w : World} {c : Nat} {xs : List α} (h : NRow enc n0 w none c xs) : xs = [] := h.toRow.none_nil.1
theorem lit1_N (w : World) (T : TypeId) {x : Nat} (hx : x < 4294967296) : NW w.heap.size (w.alloc (.cells #[.int .u32 (x : Int)] T)) (.slice (some ⟨w.heap.size, 0, none⟩) 1 1) [x] :=
  ⟨Rng.cons hx Rng.nil, _, _, rfl, NRow.new (heap_alloc_new w _) (Nat.le_refl _) (by unfold maxLen; omega) (by simp) (fun j y hj => by cases j with
    | zero => simp at hj; subst hj; rfl
    | succ j => simp at hj)⟩
theorem lit1_W (w : World) (T : TypeId) {x : Nat} (hx : x < 4294967296) : IsW (w.alloc (.cells #[.int .u32 (x : Int)] T)) (.slice (some ⟨w.heap.size, 0, none⟩) 1 1) [x] := (lit1_N w T hx).is
theorem lit1_at {w : World} {n : Nat} (hn : n = w.heap.size) (T : TypeId) {x : Nat} (hx : x < 4294967296) : IsW (w.alloc (.cells #[.int .u32 (x : Int)] T)) (.slice (some ⟨n, 0, none⟩) 1 1) [x] := by
  subst hn; exact lit1_W w T hx
theorem NRow.is_W {n0 : Nat} {w : World} {A : Option Addr} {c : Nat} {xs : List Nat} (h : NRow encW n0 w A c xs) (hr : Rng xs) : IsW w (.slice A xs.length c) xs := ⟨hr, A, c, rfl, h.toRow⟩
theorem Own32.put {w0 w : World} {g n : Nat} {os : List Nat} (h : Own32 w0 w g n os) (j : Nat) {s : Nat} (hs : s < 4294967296) : Own32 w0 (w.setCell ⟨g, j, none⟩ (.int .u32 (s : Int))) g n (os.set j s) := by
  have h1 := h.set j s
  rw [Nat.mod_eq_of_lt hs] at h1
  have e : ((s : Int) % 4294967296) = (s : Int) := by omega
  rw [e] at h1
  exact h1
theorem divsub_len {us vs os : List Nat} {T V lo : Nat} (HL : Hid (us.length + vs.length + 4 ≤ 35184372088832)) (HM : Hid (MulOut vs [lo] vs.length os)) (rT : Rng (wordsOf T)) (HV : Hid (V = val vs)) (rv : Rng vs) (HD : Hid (T / V < 4294967296 ∧ T < V * 4294967296)) :
    max (wordsOf T).length (trim os).length + 2 ≤ 35184372088832 := by
  have h1 := trim_len os
  have h2 := HM.out.len
  simp only [List.length_cons, List.length_nil] at h2
  have h3 : T ≤ val (0 :: vs) := by
    have := HD.out.2
    rw [val_cons, ← HV.out, Nat.mul_comm 4294967296 V]; omega
  have h4 := wordsOf_len_mono h3
  have h5 : (wordsOf (val (0 :: vs))).length ≤ vs.length + 1 := by rw [← trim_eq (Rng.cons (by omega) rv)]; exact trim_len _
  have := HL.out
  omega
set_option maxRecDepth 100000 in
set_option maxHeartbeats 1000000 in
theorem whole_div_long (va vb : Value) (us vs : List Nat) (w : World) (ha : IsW w va us) (hb : IsW w vb vs) (tv : trim vs = vs) (h1 : vs.length ≠ 1) (hv0 : vs ≠ []) (hlen : us.length + vs.length + 4 ≤ 35184372088832) :
    Calls Try.prog 169 #[va, vb] w fun e w' => ∃ qs rs v1 v2, Hid (qs = wordsOf (val us / val vs)) ∧ Hid (rs = wordsOf (val us % val vs)) ∧ e = .returned (.tuple #[v1, v2]) ∧ NW w.heap.size w' v1 qs ∧ NW w.heap.size w' v2 rs ∧ Below w.heap.size w w' := by
  have hbW := hb
  obtain ⟨ru, A, ca, rfl, hra⟩ := ha
  obtain ⟨rv, B, cb, rfl, hrb⟩ := hb
  have hmx : us.length ≤ 9223372036854775807 := by omega
  have hmv : vs.length ≤ 9223372036854775807 := by omega
  have hb1 : (((vs.length : Nat) : Int) == 1) = false := by rw [beq_eq_false_iff_ne]; omega
  have hV : 0 < val vs := by
    rcases Nat.eq_zero_or_pos (val vs) with h | h
    · exact absurd (by rw [← tv, trim_eq rv, h, wordsOf_zero]) hv0
    · exact h
  have HL := Lib.hid hlen
  have HT := Lib.hid tv
  clear hlen h1 hv0 tv
  obtain ⟨V, hVe⟩ : ∃ V, V = val vs := ⟨_, rfl⟩
  have HV := Lib.hid hVe
  rw [← hVe] at hV
  clear hVe
  obtain ⟨i0, hi, hz0, hz1, hz2⟩ := info_parts info_u32
  go_enter Try.func169, Try.ntmps169
  go_wp2_with (at_make; refine wpList_make_full _ rfl _ _ 39 rfl w.heap.size 100 i0 (.int .u32 0) 1 und_words hi hz0 hz1 .i64 .i64 _ _ us.length rfl rfl rfl rfl (by rw [hz2]; have := HL.out; omega) (by unfold maxLen; omega) (Nat.le_refl _) ?_; intro w1 hown hg)
  rw [madeCells_u32] at hown
  have hO : Own32 w w1 w.heap.size us.length (List.replicate us.length 0) := ⟨hown, (Below.refl _ _).grown hg (Nat.le_refl _) (fun k e => by cases e), Nat.le_refl _⟩
  clear hown hg
  go_loopw [5, 35] (fun r i wr => ∃ k R : Nat, k ≤ us.length ∧ i = .int .i64 k ∧ ∃ qs, Hid (Small us V k qs R) ∧ Own32 w wr w.heap.size us.length qs ∧ NW (w.heap.size + 1) wr r (wordsOf R)) (fun _ i _ => us.length - (intOf i).toNat)
  case atStart => exact ⟨0, 0, Nat.zero_le _, rfl, _, Small.start us hV, hO, by rw [wordsOf_zero]; exact ⟨Rng.nil, none, 0, rfl, NRow.nil _ _ _⟩⟩
  case round =>
    obtain ⟨k, R, hk, rfl, qs, HS, hqs, rr, Ar, cr, rfl, hNr⟩ := hrel
    clear hO
    by_cases hlt : k < us.length
    · obtain ⟨j, hj⟩ : ∃ j, j = us.length - 1 - k := ⟨_, rfl⟩
      have hj1 : j < us.length := by omega
      have hj2 : (us.length : Int) - 1 - (k : Int) = (j : Int) := by omega
      obtain ⟨ba, oa, rfl, hca⟩ := row_at (hra.below hqs.2.1) hj1
      unfold encW at hca
      have hst := HS.out.step ru hlt
      rw [← hj] at hst
      have hu := ru.getD j
      have hdig := HS.out.digit hu
      generalize us.getD j 0 = u at *
      have hRl : (wordsOf R).length ≤ vs.length := by
        have h1 : R ≤ val vs := by rw [← HV.out]; exact Nat.le_of_lt HS.out.lt
        have h2 := wordsOf_len_mono h1
        rw [← trim_eq rv] at h2
        exact Nat.le_trans h2 (trim_len vs)
      have hlenR : 1 + (wordsOf R).length ≤ 35184372088832 := by have := HL.out; omega
      have HLR := Lib.hid hlenR
      have htr : trim ([u] ++ wordsOf R) = wordsOf (R * 4294967296 + u) := by
        rw [trim_eq (Rng.append (Rng.cons hu Rng.nil) rr)]
        congr 1
        rw [List.singleton_append, val_cons, val_wordsOf]; omega
      have HTR := Lib.hid htr
      have HST := Lib.hid hst
      have HJ := Lib.hid hj
      have HD := Lib.hid hdig
      have hgs : w.heap.size + 1 ≤ wr.heap.size := (hqs.1.lt _ rfl).2
      clear hst hj htr hdig hlenR hRl
      go_wp2_with (first
        | (at_builtin; refine append_row (enc := encW) (fun _ => rfl) rfl _ _ 39 rfl (w.heap.size + 1) 100 i0 (.int .u32 0) 4 und_words hi hz0 hz1 hz2 rfl (.slice (some ⟨wr.heap.size, 0, none⟩) 1 1) 1 ([u].map encW) rfl (World.ownsRow_lit wr #[.int .u32 (u : Int)] 1 hgs (by unfold maxLen; omega) (by simp)) Ar cr (wordsOf R) (hNr.toRow.below (bl_alloc _ _)) rfl (by have := HLR.out; unfold maxLen; omega) (by have := HLR.out; omega) (by simp; omega) ?_; intro v2 w2 hown2 hg2))
      have hb2 : Below w.heap.size w w2 := bl_grow hqs.2.1 hgs (bl_alloc _ _) hg2
      have hO2 : Own32 w w2 w.heap.size us.length qs := hqs.grown hgs (bl_alloc _ _) hg2
      obtain ⟨A2, c2, rfl, hl2, hN2⟩ := NRow.of_own (xs := [u] ++ wordsOf R) (by rw [List.map_append]; exact hown2)
      have hW2 : NW (w.heap.size + 1) w2 (.slice A2 ([u] ++ wordsOf R).length c2) ([u] ++ wordsOf R) := ⟨Rng.append (Rng.cons hu Rng.nil) rr, A2, c2, rfl, hN2⟩
      refine (trim_calls hW2.is).mono ?_
      rintro e w' ⟨v', rfl, rfl, hI', hN'⟩
      replace hN' := hN' _ hW2
      rw [HTR.out] at hN'
      clear hown2 hl2 hN2 hI' hW2 hqs hg2 hgs
      generalize R * 4294967296 + u = T at *
      obtain ⟨rT, AT, cT, rfl, hNT⟩ := hN'
      have hh0 : Half T V 0 4294967296 := ⟨by simp, HD.out.2⟩
      have hh1 : ((wordsOf T).length : Int) < (vs.length : Int) → Half T V 0 1 := fun h => ⟨by simp, by
        have := len_lt_val rT HT.out (Int.ofNat_lt.1 h)
        rw [val_wordsOf, ← HV.out] at this
        simpa using this⟩
      have HH0 := Lib.hid hh0
      have HH1 := Lib.hid hh1
      clear hh0 hh1
      by_cases hTl : ((wordsOf T).length : Int) < (vs.length : Int)
--<<
      · go_wp2
        obtain ⟨wo, rfl⟩ : ∃ wo : World, wo = w2 := ⟨_, rfl⟩
        go_loopw [10, 11] (fun lo hi wi => ∃ l h : Nat, lo = .int .u64 l ∧ hi = .int .u64 h ∧ Hid (Half T V l h) ∧ h ≤ 4294967296 ∧ Below wo.heap.size wo wi) (fun lo hi _ => (intOf hi).toNat - (intOf lo).toNat)
        case atStart => exact ⟨0, 1, rfl, rfl, HH1.out hTl, by omega, Below.refl _ _⟩
        case round =>
          obtain ⟨lo, hi', rfl, rfl, HH, hhi, hbi⟩ := hrel
          have hle := HH.out.le
          obtain ⟨d, hd⟩ : ∃ d, d = hi' - lo := ⟨_, rfl⟩
          have e1 : IntKind.u64.wrap ((hi' : Int) - (lo : Int)) = (d : Int) := by simp only [IntKind.wrap]; simp [IntKind.bits, IntKind.signed]; omega
          by_cases hgt : (1 : Int) < (d : Int)
          · obtain ⟨mid, hmid⟩ : ∃ mid, mid = (lo + hi') / 2 := ⟨_, rfl⟩
            have hm1 : lo < mid ∧ mid < hi' := by omega
            have e2 : IntKind.u64.wrap ((lo : Int) + (hi' : Int)) = (lo : Int) + (hi' : Int) := by simp only [IntKind.wrap]; simp [IntKind.bits, IntKind.signed]; omega
            have e3 : ((lo : Int) + (hi' : Int)) / 2 = (mid : Int) := by omega
            have e5 : IntKind.u64.wrap (mid : Int) = (mid : Int) := by simp only [IntKind.wrap]; simp [IntKind.bits, IntKind.signed]; omega
            have e4 : IntKind.u32.wrap (mid : Int) = (mid : Int) := by simp only [IntKind.wrap]; simp [IntKind.bits, IntKind.signed]; omega
            have hlenm : vs.length + [mid].length ≤ 35184372088832 := by have := HL.out; simp; omega
            have hmidr : mid < 4294967296 := by omega
            have HBw := (hb2.trans (hbi.mono hb2.size))
            clear hmid
            go_wp2_with (first
              | (go_at_call 143; refine (whole_mul_calls _ _ vs [mid] _ ((hbW.below HBw).below (bl_alloc _ _)) (lit1_W _ _ hmidr) hlenm).mono ?_; rintro e w' ⟨os, v, HMO, rfl, hNm, hbm⟩)
              | (go_at_call 144; refine (trim_calls hNm.is).mono ?_; rintro e w' ⟨v', rfl, rfl, hIm, hNt⟩)
              | (go_at_call 148; refine (whole_cmp_calls _ _ _ _ _ hIm (((hNT.is_W rT).below hbi).below ((bl_trans (bl_alloc _ _) hbm)))).mono ?_; rintro e w' ⟨rfl, hbc⟩; by_cases hcm : cmpW (trim os) (wordsOf T) ≤ 0))
            all_goals
              have hBI : Below wo.heap.size wo w' := bl_trans (bl_trans hbi (bl_trans (bl_alloc _ _) hbm)) hbc
              have hto : trim os = wordsOf (V * mid) := by rw [trim_eq HMO.out.rng, HMO.out.final, ← HV.out]; simp [val]
              have hcs := cmpW_nonpos (rng_wordsOf (V * mid)) rT (trim_words _) (trim_words _)
              rw [val_wordsOf, val_wordsOf] at hcs
              rw [hto] at hcm
            all_goals go_roundw
            case rel => exact ⟨mid, hi', rfl, rfl, ⟨hcs.1 hcm, HH.out.high⟩, hhi, hBI⟩
            case measure => simp [intOf]; omega
            case rel => exact ⟨lo, mid, rfl, rfl, ⟨HH.out.low, Nat.lt_of_not_le fun h => absurd (hcs.2 h) (by omega)⟩, by omega, hBI⟩
            case measure => simp [intOf]; omega
          · have hlo : lo = T / V := HH.out.final (by omega)
            have hlor : lo < 4294967296 := by have := HD.out.1; omega
            have e4 : IntKind.u32.wrap (lo : Int) = (lo : Int) := by simp only [IntKind.wrap]; simp [IntKind.bits, IntKind.signed]; omega
            have hqj : j < qs.length := by rw [HS.out.len]; exact hj1
            have hO3 := hO2.below hbi
            have hcell := hO3.cell hqj
            have hfr := hO3.frozen j
            generalize qs.getD j 0 = o at *
            have hlenm : vs.length + [lo].length ≤ 35184372088832 := by have := HL.out; simp; omega
            have HBw := (hb2.trans (hbi.mono hb2.size))
            have hNT' := hNT.below hbi
            have hbs : Below w.heap.size w (wr.setCell ⟨w.heap.size, j, none⟩ (.int .u32 (lo : Int))) := HBw.setCell (p := ⟨w.heap.size, j, none⟩) (Nat.le_refl _) _
            have hTs := (hNT'.setCell (p := ⟨w.heap.size, j, none⟩) (Nat.lt_succ_self _) (.int .u32 (lo : Int))).is_W rT
            have hOs := hO3.put j hlor
            generalize hWs : World.setCell wr ⟨w.heap.size, j, none⟩ (.int .u32 (lo : Int)) = Ws at hbs hTs hOs
            have HWs := Lib.hid hWs
            have hsz2 : wr.heap.size = Ws.heap.size := by rw [← hWs]; simp [World.setCell]
            clear hWs
            have hVW := hbW.below hbs
            have HLO := Lib.hid hlo
            have hsz : w.heap.size + 1 ≤ Ws.heap.size := (hOs.1.lt _ rfl).2
            clear hlo hd HH hle hNT' hO3 hhi
            go_wp2_with (first
              | (go_at_call 143; rw [HWs.out]; refine (whole_mul_calls _ _ vs [lo] _ (hVW.below (bl_alloc _ _)) (lit1_W _ _ hlor) hlenm).mono ?_; rintro e w' ⟨os, v, HMO, rfl, hNm, hbm⟩)
              | (go_at_call 144; refine (trim_calls hNy.is).mono ?_; rintro e w' ⟨v', rfl, rfl, hIy, hNz⟩)
              | (go_at_call 144; refine (trim_calls hNm.is).mono ?_; rintro e w' ⟨v', rfl, rfl, hIm, hNt⟩)
              | (go_at_call 149; refine (whole_sub_calls _ _ _ _ _ (hTs.below (bl_trans (bl_alloc _ _) hbm)) hIm (divsub_len HL HMO rT HV rv HD)).mono ?_; rintro e w' ⟨ys, vy, HY, rfl, hNy, hby⟩))
            have hb9 : Below Ws.heap.size Ws _ := bl_trans (bl_alloc _ _) hbm
            have hto : trim os = wordsOf (V * lo) := by rw [trim_eq HMO.out.rng, HMO.out.final, ← HV.out]; simp [val]
            have hys : trim ys = wordsOf (T % V) := by
              rw [HY.out, hto, trim_eq (subW_rng _ _), subW_val rT (rng_wordsOf _) (by rw [val_wordsOf, val_wordsOf, HLO.out]; exact Nat.mul_div_le _ _), val_wordsOf, val_wordsOf, HLO.out]
              congr 1
              have := Nat.div_add_mod T V
              omega
            have hNf := hNz _ (hNy.mono (Nat.le_trans hsz hb9.size))
            rw [hys] at hNf
            go_roundw
            case rel => exact ⟨k + 1, T % V, by omega, by simp, qs.set j lo, by have := HST.out; rw [← HLO.out, Nat.mod_eq_of_lt hlor] at this; exact this, hOs.below (bl_trans hb9 hby), hNf⟩
            case measure => simp [intOf]; omega
      · have hTd : decide ((wordsOf T).length < vs.length) = false := by simpa using hTl
        go_wp2
        obtain ⟨wo, rfl⟩ : ∃ wo : World, wo = w2 := ⟨_, rfl⟩
        go_loopw [10, 11] (fun lo hi wi => ∃ l h : Nat, lo = .int .u64 l ∧ hi = .int .u64 h ∧ Hid (Half T V l h) ∧ h ≤ 4294967296 ∧ Below wo.heap.size wo wi) (fun lo hi _ => (intOf hi).toNat - (intOf lo).toNat)
        case atStart => exact ⟨0, 4294967296, rfl, rfl, HH0.out, Nat.le_refl _, Below.refl _ _⟩
        case round =>
          obtain ⟨lo, hi', rfl, rfl, HH, hhi, hbi⟩ := hrel
          have hle := HH.out.le
          obtain ⟨d, hd⟩ : ∃ d, d = hi' - lo := ⟨_, rfl⟩
          have e1 : IntKind.u64.wrap ((hi' : Int) - (lo : Int)) = (d : Int) := by simp only [IntKind.wrap]; simp [IntKind.bits, IntKind.signed]; omega
          by_cases hgt : (1 : Int) < (d : Int)
          · obtain ⟨mid, hmid⟩ : ∃ mid, mid = (lo + hi') / 2 := ⟨_, rfl⟩
            have hm1 : lo < mid ∧ mid < hi' := by omega
            have e2 : IntKind.u64.wrap ((lo : Int) + (hi' : Int)) = (lo : Int) + (hi' : Int) := by simp only [IntKind.wrap]; simp [IntKind.bits, IntKind.signed]; omega
            have e3 : ((lo : Int) + (hi' : Int)) / 2 = (mid : Int) := by omega
            have e5 : IntKind.u64.wrap (mid : Int) = (mid : Int) := by simp only [IntKind.wrap]; simp [IntKind.bits, IntKind.signed]; omega
            have e4 : IntKind.u32.wrap (mid : Int) = (mid : Int) := by simp only [IntKind.wrap]; simp [IntKind.bits, IntKind.signed]; omega
            have hlenm : vs.length + [mid].length ≤ 35184372088832 := by have := HL.out; simp; omega
            have hmidr : mid < 4294967296 := by omega
            have HBw := (hb2.trans (hbi.mono hb2.size))
            clear hmid
            go_wp2_with (first
              | (go_at_call 143; refine (whole_mul_calls _ _ vs [mid] _ ((hbW.below HBw).below (bl_alloc _ _)) (lit1_W _ _ hmidr) hlenm).mono ?_; rintro e w' ⟨os, v, HMO, rfl, hNm, hbm⟩)
              | (go_at_call 144; refine (trim_calls hNm.is).mono ?_; rintro e w' ⟨v', rfl, rfl, hIm, hNt⟩)
              | (go_at_call 148; refine (whole_cmp_calls _ _ _ _ _ hIm (((hNT.is_W rT).below hbi).below ((bl_trans (bl_alloc _ _) hbm)))).mono ?_; rintro e w' ⟨rfl, hbc⟩; by_cases hcm : cmpW (trim os) (wordsOf T) ≤ 0))
            all_goals
              have hBI : Below wo.heap.size wo w' := bl_trans (bl_trans hbi (bl_trans (bl_alloc _ _) hbm)) hbc
              have hto : trim os = wordsOf (V * mid) := by rw [trim_eq HMO.out.rng, HMO.out.final, ← HV.out]; simp [val]
              have hcs := cmpW_nonpos (rng_wordsOf (V * mid)) rT (trim_words _) (trim_words _)
              rw [val_wordsOf, val_wordsOf] at hcs
              rw [hto] at hcm
            all_goals go_roundw
            case rel => exact ⟨mid, hi', rfl, rfl, ⟨hcs.1 hcm, HH.out.high⟩, hhi, hBI⟩
            case measure => simp [intOf]; omega
            case rel => exact ⟨lo, mid, rfl, rfl, ⟨HH.out.low, Nat.lt_of_not_le fun h => absurd (hcs.2 h) (by omega)⟩, by omega, hBI⟩
            case measure => simp [intOf]; omega
          · have hlo : lo = T / V := HH.out.final (by omega)
            have hlor : lo < 4294967296 := by have := HD.out.1; omega
            have e4 : IntKind.u32.wrap (lo : Int) = (lo : Int) := by simp only [IntKind.wrap]; simp [IntKind.bits, IntKind.signed]; omega
            have hqj : j < qs.length := by rw [HS.out.len]; exact hj1
            have hO3 := hO2.below hbi
            have hcell := hO3.cell hqj
            have hfr := hO3.frozen j
            generalize qs.getD j 0 = o at *
            have hlenm : vs.length + [lo].length ≤ 35184372088832 := by have := HL.out; simp; omega
            have HBw := (hb2.trans (hbi.mono hb2.size))
            have hNT' := hNT.below hbi
            have hbs : Below w.heap.size w (wr.setCell ⟨w.heap.size, j, none⟩ (.int .u32 (lo : Int))) := HBw.setCell (p := ⟨w.heap.size, j, none⟩) (Nat.le_refl _) _
            have hTs := (hNT'.setCell (p := ⟨w.heap.size, j, none⟩) (Nat.lt_succ_self _) (.int .u32 (lo : Int))).is_W rT
            have hOs := hO3.put j hlor
            generalize hWs : World.setCell wr ⟨w.heap.size, j, none⟩ (.int .u32 (lo : Int)) = Ws at hbs hTs hOs
            have HWs := Lib.hid hWs
            have hsz2 : wr.heap.size = Ws.heap.size := by rw [← hWs]; simp [World.setCell]
            clear hWs
            have hVW := hbW.below hbs
            have HLO := Lib.hid hlo
            have hsz : w.heap.size + 1 ≤ Ws.heap.size := (hOs.1.lt _ rfl).2
            clear hlo hd HH hle hNT' hO3 hhi
            go_wp2_with (first
              | (go_at_call 143; rw [HWs.out]; refine (whole_mul_calls _ _ vs [lo] _ (hVW.below (bl_alloc _ _)) (lit1_W _ _ hlor) hlenm).mono ?_; rintro e w' ⟨os, v, HMO, rfl, hNm, hbm⟩)
              | (go_at_call 144; refine (trim_calls hNy.is).mono ?_; rintro e w' ⟨v', rfl, rfl, hIy, hNz⟩)
              | (go_at_call 144; refine (trim_calls hNm.is).mono ?_; rintro e w' ⟨v', rfl, rfl, hIm, hNt⟩)
              | (go_at_call 149; refine (whole_sub_calls _ _ _ _ _ (hTs.below (bl_trans (bl_alloc _ _) hbm)) hIm (divsub_len HL HMO rT HV rv HD)).mono ?_; rintro e w' ⟨ys, vy, HY, rfl, hNy, hby⟩))
            have hb9 : Below Ws.heap.size Ws _ := bl_trans (bl_alloc _ _) hbm
            have hto : trim os = wordsOf (V * lo) := by rw [trim_eq HMO.out.rng, HMO.out.final, ← HV.out]; simp [val]
            have hys : trim ys = wordsOf (T % V) := by
              rw [HY.out, hto, trim_eq (subW_rng _ _), subW_val rT (rng_wordsOf _) (by rw [val_wordsOf, val_wordsOf, HLO.out]; exact Nat.mul_div_le _ _), val_wordsOf, val_wordsOf, HLO.out]
              congr 1
              have := Nat.div_add_mod T V
              omega
            have hNf := hNz _ (hNy.mono (Nat.le_trans hsz hb9.size))
            rw [hys] at hNf
            go_roundw
            case rel => exact ⟨k + 1, T % V, by omega, by simp, qs.set j lo, by have := HST.out; rw [← HLO.out, Nat.mod_eq_of_lt hlor] at this; exact this, hOs.below (bl_trans hb9 hby), hNf⟩
            case measure => simp [intOf]; omega
-->>
    · obtain rfl : k = us.length := by omega
      have hl : qs.length = us.length := HS.out.len
      have hWq := hqs.NW HS.out.rng
      have hq : trim qs = wordsOf (val us / val vs) := by rw [trim_eq HS.out.rng, HS.out.quot, HV.out]
      have hr2 : wordsOf R = wordsOf (val us % val vs) := by rw [HS.out.rem, HV.out]
      have HQ := Lib.hid hq
      have HR := Lib.hid hr2
      rw [← hl] at hWq
      have HLn := Lib.hid hl
      have ht := trim_calls hWq.is
      rw [hl] at ht
      clear hq hr2 hl
      go_wp2_with (go_at_call 144; refine ht.mono ?_; rintro e w' ⟨v', rfl, rfl, hIm, hNt⟩)
      go_ret2
      exact ⟨trim qs, wordsOf R, _, _, HQ.out, HR.out, rfl, hNt _ (by rw [HLn.out] at hWq; exact hWq), ⟨rr, Ar, cr, rfl, hNr.mono (Nat.le_succ _)⟩, hqs.2.1⟩
theorem val_single (u : Nat) : val [u] = u := by simp [val]
set_option maxHeartbeats 1000000 in
theorem whole_div_calls (va vb : Value) (us vs : List Nat) (w : World) (ha : IsW w va us) (hb : IsW w vb vs) (tv : trim vs = vs) (hv0 : vs ≠ []) (hlen : us.length + vs.length + 4 ≤ 35184372088832) :
    Calls Try.prog 169 #[va, vb] w fun e w' => ∃ qs rs v1 v2, Hid (qs = wordsOf (val us / val vs)) ∧ Hid (rs = wordsOf (val us % val vs)) ∧ e = .returned (.tuple #[v1, v2]) ∧ NW w.heap.size w' v1 qs ∧ NW w.heap.size w' v2 rs ∧ Below w.heap.size w w' := by
  by_cases h1 : vs.length = 1
  · match vs, h1 with
    | [d], _ =>
      have h0 : 0 < d := by
        rcases Nat.eq_zero_or_pos d with rfl | h
        · simp [trim] at tv
        · exact h
      obtain ⟨rv, B, cb, rfl, hrb⟩ := hb
      have hd : d < 4294967296 := rv d (by simp)
      obtain ⟨bb, ob, rfl, hcb⟩ := row_at hrb (k := 0) (by simp)
      rw [show [d].getD 0 0 = d from rfl, Nat.add_zero] at hcb
      unfold encW at hcb
      rw [val_single]
      have HL := Lib.hid hlen
      have e4 : ((d : Int) % 18446744073709551616) = (d : Int) := by omega
      obtain ⟨m, hm⟩ : ∃ m, m = val us % d := ⟨_, rfl⟩
      have hmd : m < 4294967296 := by have := Nat.mod_lt (val us) h0; omega
      have e5 : IntKind.u32.wrap (m : Int) = (m : Int) := by simp only [IntKind.wrap]; simp [IntKind.bits, IntKind.signed]; omega
      have HM := Lib.hid hm
      have hs := whole_small_calls va us d w ha h0 (by omega) (by omega)
      rw [← hm] at hs ⊢
      clear hm hlen tv
      go_enter Try.func169, Try.ntmps169
      go_wp2_with (first
        | (go_at_call 144; refine (trim_calls ((lit1_N _ _ hmd).is)).mono ?_; rintro e w' ⟨v', rfl, rfl, hIm, hNt⟩)
        | (go_at_call 158; refine hs.mono ?_; rintro e w' ⟨qs, v, HQ, rfl, hN, hb⟩))
      go_ret2
      exact ⟨qs, trim [m], v, v', HQ, Lib.hid (by rw [trim_eq (Rng.cons hmd Rng.nil), val_single]), rfl, hN.below (bl_alloc _ _), (hNt _ (lit1_N _ _ hmd)).mono hb.size, bl_trans hb (bl_alloc _ _)⟩
  · exact whole_div_long va vb us vs w ha hb tv h1 hv0 hlen
end Go.Proofs.Ytnmmgegnioihmaa
