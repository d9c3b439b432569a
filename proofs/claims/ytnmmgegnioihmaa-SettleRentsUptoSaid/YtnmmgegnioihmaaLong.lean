/- The laws' own helpers: Long of layer 33. -/
import Derived.Test.YtnmmgegnioihmaaVec1
import Derived.BigRegion
set_option linter.unusedVariables false
set_option linter.unusedSimpArgs false
namespace Go.Proofs.Ytnmmgegnioihmaa
open Go.RowKit

/-- a slice of vectors -/
structure LRow (w : World) (A : Option Addr) (c : Nat) (ls : List (List Qr)) : Prop where
  le : ls.length ≤ c
  mx : c ≤ maxLen
  nl : A = none → c = 0
  rd : ls ≠ [] → ∃ b off, A = some ⟨b, off, none⟩ ∧ ∀ (j : Nat) l, ls[j]? = some l → ∃ B d, w.cell? ⟨b, off + j, none⟩ = some (.slice B l.length d) ∧ QRow w B d l
theorem LRow.below {w w' : World} {A : Option Addr} {c : Nat} {l : List (List Qr)} (h : LRow w A c l) (hb : Below w.heap.size w w') : LRow w' A c l := by
  refine ⟨h.le, h.mx, h.nl, fun hx => ?_⟩
  obtain ⟨b, off, e, hc⟩ := h.rd hx
  refine ⟨b, off, e, fun j q hj => ?_⟩
  obtain ⟨B, d, c0, h1⟩ := hc j q hj
  exact ⟨B, d, bl_cell hb c0, h1.below hb⟩
theorem LRow.at {w : World} {A : Option Addr} {c : Nat} {ls : List (List Qr)} (h : LRow w A c ls) {k : Nat} (hk : k < ls.length) : ∃ b off B d, A = some ⟨b, off, none⟩ ∧ w.cell? ⟨b, off + k, none⟩ = some (.slice B (ls.getD k []).length d) ∧ QRow w B d (ls.getD k []) := by
  obtain ⟨b, off, e, hc⟩ := h.rd (by rintro rfl; simp at hk)
  obtain ⟨B, d, h1, h2⟩ := hc k (ls.getD k []) (by rw [List.getD_eq_getElem?_getD, List.getElem?_eq_getElem hk]; rfl)
  exact ⟨b, off, B, d, e, h1, h2⟩
theorem min_eq (n : Nat) : ∃ m : Nat, m ≤ 100 ∧ ∀ ts t W, (Builtin.min_ ts t #[.int .i64 100, .int .i64 (n : Int)]).run Try.prog W = .ok (.int .i64 (m : Int)) W :=
  ⟨min 100 n, by omega, fun ts t W => by rw [run_min_int2]; congr 2; split <;> omega⟩
set_option maxHeartbeats 4000000 in
theorem Long_calls (A : Option Addr) (c : Nat) (ls : List (List Qr)) (w : World) (h : LRow w A c ls) (hlen : ls.length ≤ 1099511627776) :
    Calls Try.prog 31 #[.slice A ls.length c] w fun e w' => ∃ b, e = .returned (.bool b) ∧ (b = false → ∀ l ∈ ls, l.length ≤ 40) ∧ Below w.heap.size w w' := by
  go_enter Try.func31, Try.ntmps31
  go_wp2
  go_loopw [3, 4] (fun n i wr => ∃ k nn : Nat, k ≤ ls.length ∧ i = .int .i64 k ∧ n = .int .i64 nn ∧ nn ≤ 400 ∧ Hid (∀ j, j < k → (ls.getD j []).length ≤ 40) ∧ Below w.heap.size w wr) (fun _ i _ => ls.length - (intOf i).toNat)
  case atStart => exact ⟨0, 0, Nat.zero_le _, rfl, rfl, by omega, Lib.hid (fun j hj => by omega), Below.refl _ _⟩
  case round =>
    obtain ⟨k, nn, hk, rfl, rfl, hn, HK, hb⟩ := hrel
    by_cases hlt : k < ls.length
    · obtain ⟨b, off, B, d, rfl, hc, hr⟩ := (h.below hb).at hlt
      obtain ⟨l, hle⟩ : ∃ l, l = ls.getD k [] := ⟨_, rfl⟩
      have HLE := Lib.hid hle
      rw [← hle] at hc hr
      clear hle
      by_cases hbig : 40 < l.length
      · go_wp2
        go_ret
        exact ⟨true, rfl, (fun h => by cases h), hb⟩
      · have hdec : decide ((40 : Int) < (l.length : Int)) = false := by simp; omega
        have hl40 : Hid (l.length ≤ 40) := Lib.hid (by omega)
        go_wp2
        obtain ⟨wo, hwo⟩ : ∃ wo : World, wo = wr := ⟨_, rfl⟩
        go_loopw [3, 5] (fun n i wi => ∃ m n2 : Nat, m ≤ l.length ∧ i = .int .i64 m ∧ n = .int .i64 n2 ∧ n2 ≤ 400 + 201 * m ∧ Below w.heap.size w wi ∧ Below wo.heap.size wo wi) (fun _ i _ => l.length - (intOf i).toNat)
        case atStart => subst hwo; exact ⟨0, nn, Nat.zero_le _, rfl, rfl, by omega, hb, Below.refl _ _⟩
        case round =>
          obtain ⟨m, n2, hm, rfl, rfl, hn2, hbi, hbo⟩ := hrel
          subst hwo
          have hci := bl_cell hbo hc
          by_cases hlm : m < l.length
          · obtain ⟨b2, off2, A1, c1, A2, c2, rfl, y0, y1, y2, y3, hq⟩ := (hr.below hbo).at hlm
            obtain ⟨x, hxe⟩ : ∃ x, x = l.getD m zeroQ := ⟨_, rfl⟩
            rw [← hxe] at y0 y1 y2 y3 hq
            clear hxe
            obtain ⟨m1, hm1, e1⟩ := min_eq x.n.ws.length
            obtain ⟨m2, hm2, e2⟩ := min_eq x.d.ws.length
            clear hc y0 y2 hq
            go_wp2
            go_quiet (fail)
            go_wp2
            go_roundw
            case rel => exact ⟨m + 1, n2 + 1 + m1 + m2, by omega, by simp, by simp, by omega, hbi.trans (by have := bl_drewN wr nq; exact this.mono hbi.size), bl_trans hbo (bl_drewN wr nq)⟩
            case measure => simp [intOf]; omega
          · obtain rfl : m = l.length := by omega
            have hn2' : n2 ≤ 8440 := by have := hl40.out; omega
            by_cases hgt : 400 < n2
            · go_wp2
              go_ret
              exact ⟨true, rfl, (fun h => by cases h), hbi⟩
            · go_wp2
              go_roundw
              case rel =>
                refine ⟨k + 1, n2, by omega, by simp, rfl, by omega, Lib.hid fun j hj => ?_, hbi⟩
                by_cases h : j < k
                · exact HK.out j h
                · obtain rfl : j = k := by omega
                  rw [← HLE.out]; exact hl40.out
              case measure => simp [intOf]; omega
    · obtain rfl : k = ls.length := by omega
      go_wp2
      go_ret
      refine ⟨false, rfl, fun _ l hl => ?_, hb⟩
      obtain ⟨j, hj, rfl⟩ := List.getElem_of_mem hl
      have := HK.out j hj
      rw [List.getD_eq_getElem?_getD, List.getElem?_eq_getElem hj] at this
      exact this
end Go.Proofs.Ytnmmgegnioihmaa
