/-
  Slices of 32-bit floats in the laws: marked, held.
-/
import Derived.Test.YtcbfefamemidnaaDoorSl4
namespace Go.Proofs.YtcbfefamemidnaaDoor
open Go.RowKit

/-! ### Marked and held -/
/-- The marks k, k + 1 .. as floats. -/
def marks (k : Int) (n : Nat) : List Nat := (List.range n).map fun i : Nat => floatOfInt .f32 (k + (i : Int))
theorem marks_len (k : Int) (n : Nat) : (marks k n).length = n := by simp [marks]
theorem marks_at (k : Int) (n i : Nat) (h : i < n) : (marks k n).getD i 0 = floatOfInt .f32 (k + (i : Int)) := by simp [marks, List.getD, h]
/-- The cells after i rounds of marking. -/
def marking (k : Int) (xs : List Nat) (i : Nat) : List Value := ((marks k xs.length).take i ++ xs.drop i).map mkF
theorem marking_zero (k : Int) (xs : List Nat) : marking k xs 0 = xs.map mkF := by simp [marking]
theorem marking_end (k : Int) (xs : List Nat) : marking k xs xs.length = (marks k xs.length).map mkF := by
  unfold marking
  rw [List.take_of_length_le (by rw [marks_len]; exact Nat.le_refl _), List.drop_of_length_le (Nat.le_refl _), List.append_nil]
theorem marking_set (k : Int) (xs : List Nat) (i : Nat) (h : i < xs.length) : (marking k xs i).set i (.float .f32 (floatOfInt .f32 (k + (i : Int)))) = marking k xs (i + 1) := by
  unfold marking
  have hl : i < (marks k xs.length).length := by rw [marks_len]; exact h
  have h1 : (marks k xs.length).take (i + 1) = (marks k xs.length).take i ++ [(marks k xs.length)[i]] := List.take_succ_eq_append_getElem hl
  have h2 : xs.drop i = xs[i] :: xs.drop (i + 1) := List.drop_eq_getElem_cons h
  have h3 : (marks k xs.length)[i] = floatOfInt .f32 (k + (i : Int)) := by simp [marks]
  have h4 : (List.map mkF (List.take i (marks k xs.length))).length = i := by simp [marks_len]; omega
  rw [h1, h2, h3, List.map_append, List.map_append, List.map_append, List.map_cons, List.set_append_right _ _ (by omega), h4, Nat.sub_self]
  simp
theorem foi_self (n : Int) : (FloatKind.f32.format.order (floatOfInt .f32 n) (floatOfInt .f32 n) != some .eq) = false := by
  rw [order_self]
  have : isN .f32 (floatOfInt .f32 n) = false := write_notNaN FloatKind.f32.format (d := .number (n < 0) n.natAbs 0) rfl
  rw [this]
  rfl
theorem grown_trans {w w1 w2 : World} {r : Option Nat} (h : w.grownBy w1 r) (k : w1.grownBy w2 r) : w.grownBy w2 r :=
  ⟨k.os.trans h.os, k.tape.trans h.tape, k.output.trans h.output, Nat.le_trans h.size k.size, fun b hb hr => (k.block b (Nat.lt_of_lt_of_le hb h.size) hr).trans (h.block b hb hr)⟩
set_option maxHeartbeats 400000 in
theorem markF_any (B : Nat) (a : Option Addr) (len cap : Nat) (xs : List Nat) (k0 : Int) (w : World) (ho : w.ownsRow B 60 1 (.slice a len cap) len (xs.map mkF)) (hl : len ≤ 1048576) (hk0 : 0 ≤ k0) (hk1 : k0 ≤ 16777216) :
    Calls Tryd.prog 31 #[.slice a len cap, .int .i64 k0] w fun e w' => e = .returned (.int .i64 (k0 + (len : Int))) ∧
      w'.ownsRow B 60 1 (.slice a len cap) len ((marks k0 len).map mkF) ∧ w.grownBy w' (Value.slice a len cap).ownBlock := by
  have hxl : xs.length = len := by have := ho.1; simpa using this
  go_enter Tryd.func31, Tryd.ntmps31
  go_wp2
  go_loopw [1, 5] (fun t i wr => ∃ k : Nat, k ≤ len ∧ i = .int .i64 k ∧ t = .int .i64 (k0 + (k : Int)) ∧ wr.ownsRow B 60 1 (.slice a len cap) len (marking k0 xs k) ∧ w.grownBy wr (Value.slice a len cap).ownBlock) (fun _ i _ => len - (intOf i).toNat)
  case atStart => exact ⟨0, Nat.zero_le _, rfl, by simp, by rw [marking_zero]; exact ho, World.grownBy.refl _ _⟩
  case round =>
    obtain ⟨k, hk, rfl, rfl, ho', hg⟩ := hrel
    by_cases hlt : k < len
    · rcases ho.2 with ⟨hv, hn⟩ | ⟨g, c, cur, hv, _⟩
      · exfalso; omega
      simp only [Value.slice.injEq] at hv
      obtain ⟨rfl, _, rfl⟩ := hv
      have hc2 : ∃ u, wr.cell? ⟨g, k, none⟩ = some u := by
        rw [ho'.cellAt k (by omega)]
        exact ⟨_, List.getElem?_eq_getElem (by rw [ho'.1]; omega)⟩
      obtain ⟨u, hc2⟩ := hc2
      have hf := ho'.frozenAt k
      have hst := ho'.stored k (.float .f32 (floatOfInt .f32 (k0 + (k : Int))))
      rw [marking_set k0 xs k (by omega)] at hst
      have HS := Lib.hid hst
      have HG := Lib.hid hg
      clear hst hg ho ho' hxl
      go_wp2
      go_roundw
      case rel => exact ⟨k + 1, by omega, by go_num, by go_num, HS.out.1, grown_trans HG.out HS.out.2⟩
      case measure => simp [intOf]; omega
    · obtain rfl : k = len := by omega
      have he := marking_end k0 xs
      rw [hxl] at he
      rw [he] at ho'
      have HO := Lib.hid ho'
      have HG := Lib.hid hg
      clear ho' ho he hxl hg
      go_wp2
      go_ret
      exact ⟨rfl, HO.out, HG.out⟩
set_option maxHeartbeats 400000 in
theorem heldF_any (a : Option Addr) (len cap : Nat) (k0 : Int) (w : World) (hr : IsRow mkF w a len cap (marks k0 len)) (hl : len ≤ 1048576) (hk0 : 0 ≤ k0) (hk1 : k0 ≤ 16777216) :
    Calls Tryd.prog 32 #[.slice a len cap, .int .i64 k0] w fun e w' => e = .returned (.int .i64 (k0 + (len : Int))) ∧ w = w' := by
  obtain ⟨h1, h2, h3, h4⟩ := hr
  go_enter Tryd.func32, Tryd.ntmps32
  go_wp2
  go_loop [1, 5] (fun t i => ∃ k : Nat, k ≤ len ∧ i = .int .i64 k ∧ t = .int .i64 (k0 + (k : Int))) (fun _ i => len - (intOf i).toNat)
  case atStart => exact ⟨0, Nat.zero_le _, rfl, by simp⟩
  case round =>
    obtain ⟨k, hk, rfl, rfl⟩ := hrel
    by_cases hlt : k < len
    · rcases h4 with h4 | ⟨b, off, rfl, hbl, hc⟩
      · exfalso; rw [h4] at h1; simp at h1; omega
      · have hc1 : w.cell? ⟨b, off + k, none⟩ = some (.float .f32 (floatOfInt .f32 (k0 + (k : Int)))) := by rw [hc k hlt, marks_at k0 len k hlt]
        have hs := foi_self (k0 + (k : Int))
        clear hc h1
        go_wp2
        go_round
        case rel => exact ⟨k + 1, by omega, by go_num, by go_num⟩
        case measure => simp [intOf]; omega
    · obtain rfl : k = len := by omega
      go_wp2
      go_ret
      exact ⟨rfl, rfl⟩
end Go.Proofs.YtcbfefamemidnaaDoor
