/- Package frac: does, Add, Sub, Mul .. -/
import Derived.Test.YtnmmgegnioihmaaFrac3
import Derived.Test.YtnmmgegnioihmaaFracP
import Derived.WideMake
set_option linter.unusedVariables false
set_option linter.unusedSimpArgs false
namespace Go.Proofs.Ytnmmgegnioihmaa
open Go.RowKit

theorem push_set (xs : Array Obj) (o o' : Obj) : (xs.push o).setIfInBounds xs.size o' = xs.push o' := by
  apply Array.ext
  · simp
  · intro i h1 h2
    simp only [Array.size_setIfInBounds, Array.size_push] at h1
    rw [Array.getElem_setIfInBounds (by simpa using h1)]
    split
    · rename_i h; subst h; simp
    · rename_i h
      have : i < xs.size := by omega
      rw [Array.getElem_push_lt this, Array.getElem_push_lt this]
theorem heap_new_at {W : World} {o : Obj} {k : Nat} (hk : k = W.heap.size) : (W.alloc o).heap[k]? = some o := by subst hk; exact heap_alloc_new _ _
theorem run_insert_new {P : Program} (w0 : World) (mty kt et : TypeId) (es : Array MapEntry) (clock : Nat) (s : ByteArray) (val : Value) (hm : P.underlying mty = some (.map kt et)) (hk : P.underlying kt = some .string)
    (hf : Instr.findNow .string (.string s) es.toList 0 = some none) :
    (Instr.mapUpdate mty (.map (some w0.heap.size)) (.string s) val).run P (w0.alloc (.map es clock)) = .ok () (w0.alloc (.map (es.push { key := .string s, val := val, born := clock }) (clock + 1))) := by
  have hb : (w0.alloc (.map es clock)).heap[w0.heap.size]? = some (.map es clock) := heap_alloc_new w0 _
  have hc : ∀ w, (Instr.checkKey false 10000 kt (.string s)).run P w = .ok () w := fun w => MapKept.run_checkKey (k := .string s) hk (by simp [MapKept.IsKey]) false 9999
  simp [Instr.mapUpdate, run_underlying hm, MapKept.run_getObj_map hb, hc, MapKept.run_findKey hk hf, MapKept.run_setObj_map _ hb, Result.andThen]
  have e : (w0.alloc (.map es clock)).heap.setIfInBounds w0.heap.size (Obj.map (es.push { key := Value.string s, val := val, born := clock }) (clock + 1)) = w0.heap.push (Obj.map (es.push { key := Value.string s, val := val, born := clock }) (clock + 1)) := push_set _ _ _
  rw [e]; rfl
theorem run_lookup_str {P : Program} (w : World) (mty kt et : TypeId) (r i : Nat) (es : Array MapEntry) (clock : Nat) (s : ByteArray) (v : Value) (hm : P.underlying mty = some (.map kt et)) (hk : P.underlying kt = some .string)
    (hb : w.heap[r]? = some (.map es clock)) (hf : Instr.findNow .string (.string s) es.toList 0 = some (some (i, v))) :
    (Instr.lookup mty (.map (some r)) (.string s) false).run P w = .ok v w := by
  have hc : ∀ b w, (Instr.checkKey b 10000 kt (.string s)).run P w = .ok () w := fun b w => MapKept.run_checkKey (k := .string s) hk (by simp [MapKept.IsKey]) b 9999
  simp [Instr.lookup, run_underlying hm, MapKept.run_getObj_map hb, hc, MapKept.run_findKey hk hf, Result.andThen]
set_option maxRecDepth 20000 in
set_option maxHeartbeats 2000000 in
theorem does_add_w (va vb : Value) (a b : Qr) (w : World) (ha : IsQ w va a) (hb : IsQ w vb b) (hlen : 8 * (a.S + b.S) + 8 ≤ 35184372088832) :
    Calls Try.prog 94 #[.string { data := #[97, 100, 100] }, va, vb] w (PostQ w (a.val + b.val) (a.S + b.S)) := by
  have hA := ha
  have hB := hb
  obtain ⟨v1, v2, rfl, hn, hd⟩ := ha
  obtain ⟨v3, v4, rfl, hm, he⟩ := hb
  have ka : a.Ok := ⟨hn.1, hd.1⟩
  have kb : b.Ok := ⟨hm.1, he.1⟩
  have HLa : Hid (a.S ≤ 35184372088832) := Lib.hid (by omega)
  have HLb : Hid (b.S ≤ 35184372088832) := Lib.hid (by omega)
  have HL := Lib.hid hlen
  clear hlen
  obtain ⟨r1, A1, c1, rfl, h1⟩ := hn
  obtain ⟨r2, A2, c2, rfl, h2⟩ := hd
  obtain ⟨r3, A3, c3, rfl, h3⟩ := hm
  obtain ⟨r4, A4, c4, rfl, h4⟩ := he
  have hmm := @run_makeMap Try.prog
  have hmu : ∀ (w0 : World) (es : Array MapEntry) (clock : Nat) (s : ByteArray) (val : Value) (hf : Instr.findNow .string (.string s) es.toList 0 = some none), (Instr.mapUpdate 127 (.map (some w0.heap.size)) (.string s) val).run Try.prog (w0.alloc (.map es clock)) = .ok () (w0.alloc (.map (es.push { key := .string s, val := val, born := clock }) (clock + 1))) :=
    fun w0 es clock s val hf => run_insert_new w0 _ 9 _ es clock s val Try.underlying127 Try.underlying9 hf
  have hi1 : ∀ (w0 : World) (r : Nat) (x0 : Value), r = w0.heap.size → (Instr.mapUpdate 127 (.map (some r)) (.string { data := #[97, 100, 100] }) x0).run Try.prog (w0.alloc (.map #[] 0)) = .ok () (w0.alloc (.map #[⟨.string { data := #[97, 100, 100] }, x0, 0⟩] 1)) := fun w0 r x0 hr => hr ▸ hmu w0 #[] 0 _ x0 rfl
  have hi2 : ∀ (w0 : World) (r : Nat) (x0 x1 : Value), r = w0.heap.size → (Instr.mapUpdate 127 (.map (some r)) (.string { data := #[115, 117, 98] }) x1).run Try.prog (w0.alloc (.map #[⟨.string { data := #[97, 100, 100] }, x0, 0⟩] 1)) = .ok () (w0.alloc (.map #[⟨.string { data := #[97, 100, 100] }, x0, 0⟩, ⟨.string { data := #[115, 117, 98] }, x1, 1⟩] 2)) := fun w0 r x0 x1 hr => hr ▸ hmu w0 #[⟨.string { data := #[97, 100, 100] }, x0, 0⟩] 1 _ x1 rfl
  have hi3 : ∀ (w0 : World) (r : Nat) (x0 x1 x2 : Value), r = w0.heap.size → (Instr.mapUpdate 127 (.map (some r)) (.string { data := #[109, 117, 108] }) x2).run Try.prog (w0.alloc (.map #[⟨.string { data := #[97, 100, 100] }, x0, 0⟩, ⟨.string { data := #[115, 117, 98] }, x1, 1⟩] 2)) = .ok () (w0.alloc (.map #[⟨.string { data := #[97, 100, 100] }, x0, 0⟩, ⟨.string { data := #[115, 117, 98] }, x1, 1⟩, ⟨.string { data := #[109, 117, 108] }, x2, 2⟩] 3)) := fun w0 r x0 x1 x2 hr => hr ▸ hmu w0 #[⟨.string { data := #[97, 100, 100] }, x0, 0⟩, ⟨.string { data := #[115, 117, 98] }, x1, 1⟩] 2 _ x2 rfl
  have hi4 : ∀ (w0 : World) (r : Nat) (x0 x1 x2 x3 : Value), r = w0.heap.size → (Instr.mapUpdate 127 (.map (some r)) (.string { data := #[100, 105, 118] }) x3).run Try.prog (w0.alloc (.map #[⟨.string { data := #[97, 100, 100] }, x0, 0⟩, ⟨.string { data := #[115, 117, 98] }, x1, 1⟩, ⟨.string { data := #[109, 117, 108] }, x2, 2⟩] 3)) = .ok () (w0.alloc (.map #[⟨.string { data := #[97, 100, 100] }, x0, 0⟩, ⟨.string { data := #[115, 117, 98] }, x1, 1⟩, ⟨.string { data := #[109, 117, 108] }, x2, 2⟩, ⟨.string { data := #[100, 105, 118] }, x3, 3⟩] 4)) := fun w0 r x0 x1 x2 x3 hr => hr ▸ hmu w0 #[⟨.string { data := #[97, 100, 100] }, x0, 0⟩, ⟨.string { data := #[115, 117, 98] }, x1, 1⟩, ⟨.string { data := #[109, 117, 108] }, x2, 2⟩] 3 _ x3 rfl
  clear hmu
  go_enter Try.func94, Try.ntmps94
  go_wp2
  generalize hw0 : World.alloc _ _ = w0
  have hb0 : Below w.heap.size w w0 := by subst hw0; exact bl_alloc2 (bl_alloc2 (bl_alloc2 (bl_alloc _ _) _) _) _
  have t1 : Box4 w w0 (· = w.heap.size + 2) w.heap.size (.bool a.n.neg) (.slice A1 a.n.ws.length c1) (.bool a.d.neg) (.slice A2 a.d.ws.length c2) := Box4.mk (by omega) (by subst hw0; refine ⟨?_, ?_, ?_, ?_⟩ <;> go_simp)
  have t2 : Box4 w w0 (· = w.heap.size + 2) (w.heap.size + 1) (.bool b.n.neg) (.slice A3 b.n.ws.length c3) (.bool b.d.neg) (.slice A4 b.d.ws.length c4) := Box4.mk (by omega) (by subst hw0; refine ⟨?_, ?_, ?_, ?_⟩ <;> go_simp)
  have k0 : Four (w.heap.size + 2) w0 := by subst hw0; exact (Four.alloc _ _ _ _ _ (by simp)).below (bl_alloc _ _)
  have z0 : w0.heap.size = w.heap.size + 4 := by subst hw0; simp
  have hmap : ∃ es clock, w0.heap[w.heap.size + 1 + 1 + 1]? = some (.map es clock) ∧ Instr.findNow .string (.string { data := #[97, 100, 100] }) es.toList 0 = some (some (0, .agg #[.func (.func 124) #[] #[]])) := by
    subst hw0; exact ⟨_, _, heap_new_at (by simp), rfl⟩
  obtain ⟨es, clock, hmp, hfn⟩ := hmap
  have hlk : ∀ W, Fr w w0 (· = w.heap.size + 2) W → (Instr.lookup 127 (.map (some (w.heap.size + 1 + 1 + 1))) (.string { data := #[97, 100, 100] }) false).run Try.prog W = .ok (.agg #[.func (.func 124) #[] #[]]) W := fun W hW =>
    run_lookup_str W _ 9 _ _ 0 _ _ _ _ Try.underlying127 Try.underlying9 ((hW.block _ (by omega) (by omega)).trans hmp) hfn
  clear hmp hfn
  have f0 : Fr w w0 (· = w.heap.size + 2) w0 := Fr.start hb0
  have hfd : ∀ (W : World), (Instr.field 126 (.agg #[.func (.func 124) #[] #[]]) 0).run Try.prog W = .ok (.func (.func 124) #[] #[]) W := fun W => rfl
  clear hw0 hmm hi1 hi2 hi3 hi4
  go_region_held3 (fun W => Fr w w0 (· = w.heap.size + 2) W) (first | assumption | exact Fr.drew (by assumption) | exact Fr.call (by assumption) (by assumption) | exact Fr.put4 f2 (by rfl) (by omega) _ _ _ _) (first
    | (go_at_call 116; (with_reducible refine (of_calls _ a _ (hA.below (Fr.b (by assumption))) HLa.out).mono ?_); rintro e w2 ⟨p, x1, HP, rfl, hP, hb2⟩)
    | (go_at_call 116; (with_reducible refine (of_calls _ b _ (hB.below (Fr.b (by assumption))) HLb.out).mono ?_); rintro e w3 ⟨q, x2, HQ, rfl, hQ, hb3⟩; replace hP := hP.below hb3
       have HK := Lib.hid (add_ok HP.out HQ.out ka kb)
       have hl4 : p.n.ws.length + q.d.ws.length + (q.n.ws.length + p.d.ws.length) + (p.d.ws.length + q.d.ws.length) + 4 ≤ 35184372088832 := by have := HP.out.ln; have := HP.out.ld; have := HQ.out.ln; have := HQ.out.ld; have := HL.out; omega)
    | (go_at_call 124; (with_reducible refine (does_add_calls _ _ p q _ hP hQ hl4).mono ?_); rintro e w4 ⟨z3, z4, x3, HZ3, HZ4, rfl, hN, hb4⟩
       have hz0 : 0 < (⟨z3, z4⟩ : Qr).d.val := by show 0 < z4.val; rw [HZ4.out, canZ_val]; exact HK.out.pos
       have hz1 : Rat.divInt (⟨z3, z4⟩ : Qr).n.val (⟨z3, z4⟩ : Qr).d.val = a.val + b.val := by show Rat.divInt z3.val z4.val = _; rw [HZ3.out, HZ4.out, canZ_val, canZ_val]; exact HK.out.val
       have hz2 : 2 * ((⟨z3, z4⟩ : Qr).n.ws.length + (⟨z3, z4⟩ : Qr).d.ws.length) + 4 ≤ 35184372088832 := by show 2 * (z3.ws.length + z4.ws.length) + 4 ≤ _; rw [HZ3.out, HZ4.out]; have := HK.out.ln; have := HK.out.ld; have := HL.out; omega)
    | (go_at_call 130; (with_reducible refine (least_calls _ ⟨z3, z4⟩ (a.val + b.val) (a.S + b.S) _ hN.is hz0 hz1 HK.out.S hz2).mono ?_); rintro e w5 ⟨r, x5, HR, hRS, rfl, hR, hb5⟩; replace hR := hR.mono (Nat.le_trans (Nat.le_of_eq z0.symm) (Fr.size (by assumption))); obtain ⟨v5, v6, rfl, ⟨r5, A5, c5, rfl, h5⟩, ⟨r6, A6, c6, rfl, h6⟩⟩ := hR; have f2 := Fr.call (by assumption) hb5; obtain ⟨⟨x0, y0⟩, ⟨x1, y1⟩, ⟨x2, y2⟩, ⟨x3, y3⟩, g0, g1, g2, g3⟩ := (Fr.four f2 k0).cells))
  all_goals go_wp2
  all_goals exact bodyPost_ret (v := .agg #[.bool _, .slice _ _ _, .bool _, .slice _ _ _]) (by simp [results, Try.results94, go_sem, y0, y1, y2, y3]) rfl (postQ_put4 (n1 := w.heap.size + 4) ⟨_, _, rfl, ⟨r5, A5, c5, rfl, h5⟩, ⟨r6, A6, c6, rfl, h6⟩⟩ HR.out hRS f2.b (by omega) (by omega))
set_option maxRecDepth 20000 in
set_option maxHeartbeats 2000000 in
theorem does_sub_w (va vb : Value) (a b : Qr) (w : World) (ha : IsQ w va a) (hb : IsQ w vb b) (hlen : 8 * (a.S + b.S) + 8 ≤ 35184372088832) :
    Calls Try.prog 94 #[.string { data := #[115, 117, 98] }, va, vb] w (PostQ w (a.val - b.val) (a.S + b.S)) := by
  have hA := ha
  have hB := hb
  obtain ⟨v1, v2, rfl, hn, hd⟩ := ha
  obtain ⟨v3, v4, rfl, hm, he⟩ := hb
  have ka : a.Ok := ⟨hn.1, hd.1⟩
  have kb : b.Ok := ⟨hm.1, he.1⟩
  have HLa : Hid (a.S ≤ 35184372088832) := Lib.hid (by omega)
  have HLb : Hid (b.S ≤ 35184372088832) := Lib.hid (by omega)
  have HL := Lib.hid hlen
  clear hlen
  obtain ⟨r1, A1, c1, rfl, h1⟩ := hn
  obtain ⟨r2, A2, c2, rfl, h2⟩ := hd
  obtain ⟨r3, A3, c3, rfl, h3⟩ := hm
  obtain ⟨r4, A4, c4, rfl, h4⟩ := he
  have hmm := @run_makeMap Try.prog
  have hmu : ∀ (w0 : World) (es : Array MapEntry) (clock : Nat) (s : ByteArray) (val : Value) (hf : Instr.findNow .string (.string s) es.toList 0 = some none), (Instr.mapUpdate 127 (.map (some w0.heap.size)) (.string s) val).run Try.prog (w0.alloc (.map es clock)) = .ok () (w0.alloc (.map (es.push { key := .string s, val := val, born := clock }) (clock + 1))) :=
    fun w0 es clock s val hf => run_insert_new w0 _ 9 _ es clock s val Try.underlying127 Try.underlying9 hf
  have hi1 : ∀ (w0 : World) (r : Nat) (x0 : Value), r = w0.heap.size → (Instr.mapUpdate 127 (.map (some r)) (.string { data := #[97, 100, 100] }) x0).run Try.prog (w0.alloc (.map #[] 0)) = .ok () (w0.alloc (.map #[⟨.string { data := #[97, 100, 100] }, x0, 0⟩] 1)) := fun w0 r x0 hr => hr ▸ hmu w0 #[] 0 _ x0 rfl
  have hi2 : ∀ (w0 : World) (r : Nat) (x0 x1 : Value), r = w0.heap.size → (Instr.mapUpdate 127 (.map (some r)) (.string { data := #[115, 117, 98] }) x1).run Try.prog (w0.alloc (.map #[⟨.string { data := #[97, 100, 100] }, x0, 0⟩] 1)) = .ok () (w0.alloc (.map #[⟨.string { data := #[97, 100, 100] }, x0, 0⟩, ⟨.string { data := #[115, 117, 98] }, x1, 1⟩] 2)) := fun w0 r x0 x1 hr => hr ▸ hmu w0 #[⟨.string { data := #[97, 100, 100] }, x0, 0⟩] 1 _ x1 rfl
  have hi3 : ∀ (w0 : World) (r : Nat) (x0 x1 x2 : Value), r = w0.heap.size → (Instr.mapUpdate 127 (.map (some r)) (.string { data := #[109, 117, 108] }) x2).run Try.prog (w0.alloc (.map #[⟨.string { data := #[97, 100, 100] }, x0, 0⟩, ⟨.string { data := #[115, 117, 98] }, x1, 1⟩] 2)) = .ok () (w0.alloc (.map #[⟨.string { data := #[97, 100, 100] }, x0, 0⟩, ⟨.string { data := #[115, 117, 98] }, x1, 1⟩, ⟨.string { data := #[109, 117, 108] }, x2, 2⟩] 3)) := fun w0 r x0 x1 x2 hr => hr ▸ hmu w0 #[⟨.string { data := #[97, 100, 100] }, x0, 0⟩, ⟨.string { data := #[115, 117, 98] }, x1, 1⟩] 2 _ x2 rfl
  have hi4 : ∀ (w0 : World) (r : Nat) (x0 x1 x2 x3 : Value), r = w0.heap.size → (Instr.mapUpdate 127 (.map (some r)) (.string { data := #[100, 105, 118] }) x3).run Try.prog (w0.alloc (.map #[⟨.string { data := #[97, 100, 100] }, x0, 0⟩, ⟨.string { data := #[115, 117, 98] }, x1, 1⟩, ⟨.string { data := #[109, 117, 108] }, x2, 2⟩] 3)) = .ok () (w0.alloc (.map #[⟨.string { data := #[97, 100, 100] }, x0, 0⟩, ⟨.string { data := #[115, 117, 98] }, x1, 1⟩, ⟨.string { data := #[109, 117, 108] }, x2, 2⟩, ⟨.string { data := #[100, 105, 118] }, x3, 3⟩] 4)) := fun w0 r x0 x1 x2 x3 hr => hr ▸ hmu w0 #[⟨.string { data := #[97, 100, 100] }, x0, 0⟩, ⟨.string { data := #[115, 117, 98] }, x1, 1⟩, ⟨.string { data := #[109, 117, 108] }, x2, 2⟩] 3 _ x3 rfl
  clear hmu
  go_enter Try.func94, Try.ntmps94
  go_wp2
  generalize hw0 : World.alloc _ _ = w0
  have hb0 : Below w.heap.size w w0 := by subst hw0; exact bl_alloc2 (bl_alloc2 (bl_alloc2 (bl_alloc _ _) _) _) _
  have t1 : Box4 w w0 (· = w.heap.size + 2) w.heap.size (.bool a.n.neg) (.slice A1 a.n.ws.length c1) (.bool a.d.neg) (.slice A2 a.d.ws.length c2) := Box4.mk (by omega) (by subst hw0; refine ⟨?_, ?_, ?_, ?_⟩ <;> go_simp)
  have t2 : Box4 w w0 (· = w.heap.size + 2) (w.heap.size + 1) (.bool b.n.neg) (.slice A3 b.n.ws.length c3) (.bool b.d.neg) (.slice A4 b.d.ws.length c4) := Box4.mk (by omega) (by subst hw0; refine ⟨?_, ?_, ?_, ?_⟩ <;> go_simp)
  have k0 : Four (w.heap.size + 2) w0 := by subst hw0; exact (Four.alloc _ _ _ _ _ (by simp)).below (bl_alloc _ _)
  have z0 : w0.heap.size = w.heap.size + 4 := by subst hw0; simp
  have hmap : ∃ es clock, w0.heap[w.heap.size + 1 + 1 + 1]? = some (.map es clock) ∧ Instr.findNow .string (.string { data := #[115, 117, 98] }) es.toList 0 = some (some (1, .agg #[.func (.func 126) #[] #[]])) := by
    subst hw0; exact ⟨_, _, heap_new_at (by simp), rfl⟩
  obtain ⟨es, clock, hmp, hfn⟩ := hmap
  have hlk : ∀ W, Fr w w0 (· = w.heap.size + 2) W → (Instr.lookup 127 (.map (some (w.heap.size + 1 + 1 + 1))) (.string { data := #[115, 117, 98] }) false).run Try.prog W = .ok (.agg #[.func (.func 126) #[] #[]]) W := fun W hW =>
    run_lookup_str W _ 9 _ _ 1 _ _ _ _ Try.underlying127 Try.underlying9 ((hW.block _ (by omega) (by omega)).trans hmp) hfn
  clear hmp hfn
  have f0 : Fr w w0 (· = w.heap.size + 2) w0 := Fr.start hb0
  have hfd : ∀ (W : World), (Instr.field 126 (.agg #[.func (.func 126) #[] #[]]) 0).run Try.prog W = .ok (.func (.func 126) #[] #[]) W := fun W => rfl
  clear hw0 hmm hi1 hi2 hi3 hi4
  go_region_held3 (fun W => Fr w w0 (· = w.heap.size + 2) W) (first | assumption | exact Fr.drew (by assumption) | exact Fr.call (by assumption) (by assumption) | exact Fr.put4 f2 (by rfl) (by omega) _ _ _ _) (first
    | (go_at_call 116; (with_reducible refine (of_calls _ a _ (hA.below (Fr.b (by assumption))) HLa.out).mono ?_); rintro e w2 ⟨p, x1, HP, rfl, hP, hb2⟩)
    | (go_at_call 116; (with_reducible refine (of_calls _ b _ (hB.below (Fr.b (by assumption))) HLb.out).mono ?_); rintro e w3 ⟨q, x2, HQ, rfl, hQ, hb3⟩; replace hP := hP.below hb3
       have HK := Lib.hid (sub_ok HP.out HQ.out ka kb)
       have hl4 : p.n.ws.length + q.d.ws.length + (q.n.ws.length + p.d.ws.length) + (p.d.ws.length + q.d.ws.length) + 4 ≤ 35184372088832 := by have := HP.out.ln; have := HP.out.ld; have := HQ.out.ln; have := HQ.out.ld; have := HL.out; omega)
    | (go_at_call 126; (with_reducible refine (does_sub_calls _ _ p q _ hP hQ hl4).mono ?_); rintro e w4 ⟨z3, z4, x3, HZ3, HZ4, rfl, hN, hb4⟩
       have hz0 : 0 < (⟨z3, z4⟩ : Qr).d.val := by show 0 < z4.val; rw [HZ4.out, canZ_val]; exact HK.out.pos
       have hz1 : Rat.divInt (⟨z3, z4⟩ : Qr).n.val (⟨z3, z4⟩ : Qr).d.val = a.val - b.val := by show Rat.divInt z3.val z4.val = _; rw [HZ3.out, HZ4.out, canZ_val, canZ_val]; exact HK.out.val
       have hz2 : 2 * ((⟨z3, z4⟩ : Qr).n.ws.length + (⟨z3, z4⟩ : Qr).d.ws.length) + 4 ≤ 35184372088832 := by show 2 * (z3.ws.length + z4.ws.length) + 4 ≤ _; rw [HZ3.out, HZ4.out]; have := HK.out.ln; have := HK.out.ld; have := HL.out; omega)
    | (go_at_call 130; (with_reducible refine (least_calls _ ⟨z3, z4⟩ (a.val - b.val) (a.S + b.S) _ hN.is hz0 hz1 HK.out.S hz2).mono ?_); rintro e w5 ⟨r, x5, HR, hRS, rfl, hR, hb5⟩; replace hR := hR.mono (Nat.le_trans (Nat.le_of_eq z0.symm) (Fr.size (by assumption))); obtain ⟨v5, v6, rfl, ⟨r5, A5, c5, rfl, h5⟩, ⟨r6, A6, c6, rfl, h6⟩⟩ := hR; have f2 := Fr.call (by assumption) hb5; obtain ⟨⟨x0, y0⟩, ⟨x1, y1⟩, ⟨x2, y2⟩, ⟨x3, y3⟩, g0, g1, g2, g3⟩ := (Fr.four f2 k0).cells))
  all_goals go_wp2
  all_goals exact bodyPost_ret (v := .agg #[.bool _, .slice _ _ _, .bool _, .slice _ _ _]) (by simp [results, Try.results94, go_sem, y0, y1, y2, y3]) rfl (postQ_put4 (n1 := w.heap.size + 4) ⟨_, _, rfl, ⟨r5, A5, c5, rfl, h5⟩, ⟨r6, A6, c6, rfl, h6⟩⟩ HR.out hRS f2.b (by omega) (by omega))
set_option maxRecDepth 20000 in
set_option maxHeartbeats 2000000 in
theorem does_mul_w (va vb : Value) (a b : Qr) (w : World) (ha : IsQ w va a) (hb : IsQ w vb b) (hlen : 8 * (a.S + b.S) + 8 ≤ 35184372088832) :
    Calls Try.prog 94 #[.string { data := #[109, 117, 108] }, va, vb] w (PostQ w (a.val * b.val) (a.S + b.S)) := by
  have hA := ha
  have hB := hb
  obtain ⟨v1, v2, rfl, hn, hd⟩ := ha
  obtain ⟨v3, v4, rfl, hm, he⟩ := hb
  have ka : a.Ok := ⟨hn.1, hd.1⟩
  have kb : b.Ok := ⟨hm.1, he.1⟩
  have HLa : Hid (a.S ≤ 35184372088832) := Lib.hid (by omega)
  have HLb : Hid (b.S ≤ 35184372088832) := Lib.hid (by omega)
  have HL := Lib.hid hlen
  clear hlen
  obtain ⟨r1, A1, c1, rfl, h1⟩ := hn
  obtain ⟨r2, A2, c2, rfl, h2⟩ := hd
  obtain ⟨r3, A3, c3, rfl, h3⟩ := hm
  obtain ⟨r4, A4, c4, rfl, h4⟩ := he
  have hmm := @run_makeMap Try.prog
  have hmu : ∀ (w0 : World) (es : Array MapEntry) (clock : Nat) (s : ByteArray) (val : Value) (hf : Instr.findNow .string (.string s) es.toList 0 = some none), (Instr.mapUpdate 127 (.map (some w0.heap.size)) (.string s) val).run Try.prog (w0.alloc (.map es clock)) = .ok () (w0.alloc (.map (es.push { key := .string s, val := val, born := clock }) (clock + 1))) :=
    fun w0 es clock s val hf => run_insert_new w0 _ 9 _ es clock s val Try.underlying127 Try.underlying9 hf
  have hi1 : ∀ (w0 : World) (r : Nat) (x0 : Value), r = w0.heap.size → (Instr.mapUpdate 127 (.map (some r)) (.string { data := #[97, 100, 100] }) x0).run Try.prog (w0.alloc (.map #[] 0)) = .ok () (w0.alloc (.map #[⟨.string { data := #[97, 100, 100] }, x0, 0⟩] 1)) := fun w0 r x0 hr => hr ▸ hmu w0 #[] 0 _ x0 rfl
  have hi2 : ∀ (w0 : World) (r : Nat) (x0 x1 : Value), r = w0.heap.size → (Instr.mapUpdate 127 (.map (some r)) (.string { data := #[115, 117, 98] }) x1).run Try.prog (w0.alloc (.map #[⟨.string { data := #[97, 100, 100] }, x0, 0⟩] 1)) = .ok () (w0.alloc (.map #[⟨.string { data := #[97, 100, 100] }, x0, 0⟩, ⟨.string { data := #[115, 117, 98] }, x1, 1⟩] 2)) := fun w0 r x0 x1 hr => hr ▸ hmu w0 #[⟨.string { data := #[97, 100, 100] }, x0, 0⟩] 1 _ x1 rfl
  have hi3 : ∀ (w0 : World) (r : Nat) (x0 x1 x2 : Value), r = w0.heap.size → (Instr.mapUpdate 127 (.map (some r)) (.string { data := #[109, 117, 108] }) x2).run Try.prog (w0.alloc (.map #[⟨.string { data := #[97, 100, 100] }, x0, 0⟩, ⟨.string { data := #[115, 117, 98] }, x1, 1⟩] 2)) = .ok () (w0.alloc (.map #[⟨.string { data := #[97, 100, 100] }, x0, 0⟩, ⟨.string { data := #[115, 117, 98] }, x1, 1⟩, ⟨.string { data := #[109, 117, 108] }, x2, 2⟩] 3)) := fun w0 r x0 x1 x2 hr => hr ▸ hmu w0 #[⟨.string { data := #[97, 100, 100] }, x0, 0⟩, ⟨.string { data := #[115, 117, 98] }, x1, 1⟩] 2 _ x2 rfl
  have hi4 : ∀ (w0 : World) (r : Nat) (x0 x1 x2 x3 : Value), r = w0.heap.size → (Instr.mapUpdate 127 (.map (some r)) (.string { data := #[100, 105, 118] }) x3).run Try.prog (w0.alloc (.map #[⟨.string { data := #[97, 100, 100] }, x0, 0⟩, ⟨.string { data := #[115, 117, 98] }, x1, 1⟩, ⟨.string { data := #[109, 117, 108] }, x2, 2⟩] 3)) = .ok () (w0.alloc (.map #[⟨.string { data := #[97, 100, 100] }, x0, 0⟩, ⟨.string { data := #[115, 117, 98] }, x1, 1⟩, ⟨.string { data := #[109, 117, 108] }, x2, 2⟩, ⟨.string { data := #[100, 105, 118] }, x3, 3⟩] 4)) := fun w0 r x0 x1 x2 x3 hr => hr ▸ hmu w0 #[⟨.string { data := #[97, 100, 100] }, x0, 0⟩, ⟨.string { data := #[115, 117, 98] }, x1, 1⟩, ⟨.string { data := #[109, 117, 108] }, x2, 2⟩] 3 _ x3 rfl
  clear hmu
  go_enter Try.func94, Try.ntmps94
  go_wp2
  generalize hw0 : World.alloc _ _ = w0
  have hb0 : Below w.heap.size w w0 := by subst hw0; exact bl_alloc2 (bl_alloc2 (bl_alloc2 (bl_alloc _ _) _) _) _
  have t1 : Box4 w w0 (· = w.heap.size + 2) w.heap.size (.bool a.n.neg) (.slice A1 a.n.ws.length c1) (.bool a.d.neg) (.slice A2 a.d.ws.length c2) := Box4.mk (by omega) (by subst hw0; refine ⟨?_, ?_, ?_, ?_⟩ <;> go_simp)
  have t2 : Box4 w w0 (· = w.heap.size + 2) (w.heap.size + 1) (.bool b.n.neg) (.slice A3 b.n.ws.length c3) (.bool b.d.neg) (.slice A4 b.d.ws.length c4) := Box4.mk (by omega) (by subst hw0; refine ⟨?_, ?_, ?_, ?_⟩ <;> go_simp)
  have k0 : Four (w.heap.size + 2) w0 := by subst hw0; exact (Four.alloc _ _ _ _ _ (by simp)).below (bl_alloc _ _)
  have z0 : w0.heap.size = w.heap.size + 4 := by subst hw0; simp
  have hmap : ∃ es clock, w0.heap[w.heap.size + 1 + 1 + 1]? = some (.map es clock) ∧ Instr.findNow .string (.string { data := #[109, 117, 108] }) es.toList 0 = some (some (2, .agg #[.func (.func 128) #[] #[]])) := by
    subst hw0; exact ⟨_, _, heap_new_at (by simp), rfl⟩
  obtain ⟨es, clock, hmp, hfn⟩ := hmap
  have hlk : ∀ W, Fr w w0 (· = w.heap.size + 2) W → (Instr.lookup 127 (.map (some (w.heap.size + 1 + 1 + 1))) (.string { data := #[109, 117, 108] }) false).run Try.prog W = .ok (.agg #[.func (.func 128) #[] #[]]) W := fun W hW =>
    run_lookup_str W _ 9 _ _ 2 _ _ _ _ Try.underlying127 Try.underlying9 ((hW.block _ (by omega) (by omega)).trans hmp) hfn
  clear hmp hfn
  have f0 : Fr w w0 (· = w.heap.size + 2) w0 := Fr.start hb0
  have hfd : ∀ (W : World), (Instr.field 126 (.agg #[.func (.func 128) #[] #[]]) 0).run Try.prog W = .ok (.func (.func 128) #[] #[]) W := fun W => rfl
  clear hw0 hmm hi1 hi2 hi3 hi4
  go_region_held3 (fun W => Fr w w0 (· = w.heap.size + 2) W) (first | assumption | exact Fr.drew (by assumption) | exact Fr.call (by assumption) (by assumption) | exact Fr.put4 f2 (by rfl) (by omega) _ _ _ _) (first
    | (go_at_call 116; (with_reducible refine (of_calls _ a _ (hA.below (Fr.b (by assumption))) HLa.out).mono ?_); rintro e w2 ⟨p, x1, HP, rfl, hP, hb2⟩)
    | (go_at_call 116; (with_reducible refine (of_calls _ b _ (hB.below (Fr.b (by assumption))) HLb.out).mono ?_); rintro e w3 ⟨q, x2, HQ, rfl, hQ, hb3⟩; replace hP := hP.below hb3
       have HK := Lib.hid (mul_ok HP.out HQ.out ka kb)
       have hl4 : p.n.ws.length + q.n.ws.length + (p.d.ws.length + q.d.ws.length) + 4 ≤ 35184372088832 := by have := HP.out.ln; have := HP.out.ld; have := HQ.out.ln; have := HQ.out.ld; have := HL.out; omega)
    | (go_at_call 128; (with_reducible refine (does_mul_calls _ _ p q _ hP hQ hl4).mono ?_); rintro e w4 ⟨z3, z4, x3, HZ3, HZ4, rfl, hN, hb4⟩
       have hz0 : 0 < (⟨z3, z4⟩ : Qr).d.val := by show 0 < z4.val; rw [HZ4.out, canZ_val]; exact HK.out.pos
       have hz1 : Rat.divInt (⟨z3, z4⟩ : Qr).n.val (⟨z3, z4⟩ : Qr).d.val = a.val * b.val := by show Rat.divInt z3.val z4.val = _; rw [HZ3.out, HZ4.out, canZ_val, canZ_val]; exact HK.out.val
       have hz2 : 2 * ((⟨z3, z4⟩ : Qr).n.ws.length + (⟨z3, z4⟩ : Qr).d.ws.length) + 4 ≤ 35184372088832 := by show 2 * (z3.ws.length + z4.ws.length) + 4 ≤ _; rw [HZ3.out, HZ4.out]; have := HK.out.ln; have := HK.out.ld; have := HL.out; omega)
    | (go_at_call 130; (with_reducible refine (least_calls _ ⟨z3, z4⟩ (a.val * b.val) (a.S + b.S) _ hN.is hz0 hz1 HK.out.S hz2).mono ?_); rintro e w5 ⟨r, x5, HR, hRS, rfl, hR, hb5⟩; replace hR := hR.mono (Nat.le_trans (Nat.le_of_eq z0.symm) (Fr.size (by assumption))); obtain ⟨v5, v6, rfl, ⟨r5, A5, c5, rfl, h5⟩, ⟨r6, A6, c6, rfl, h6⟩⟩ := hR; have f2 := Fr.call (by assumption) hb5; obtain ⟨⟨x0, y0⟩, ⟨x1, y1⟩, ⟨x2, y2⟩, ⟨x3, y3⟩, g0, g1, g2, g3⟩ := (Fr.four f2 k0).cells))
  all_goals go_wp2
  all_goals exact bodyPost_ret (v := .agg #[.bool _, .slice _ _ _, .bool _, .slice _ _ _]) (by simp [results, Try.results94, go_sem, y0, y1, y2, y3]) rfl (postQ_put4 (n1 := w.heap.size + 4) ⟨_, _, rfl, ⟨r5, A5, c5, rfl, h5⟩, ⟨r6, A6, c6, rfl, h6⟩⟩ HR.out hRS f2.b (by omega) (by omega))
end Go.Proofs.Ytnmmgegnioihmaa
