/-
  Slices of 64-bit integers in the laws: copied, compared, marked, held.
-/
import Derived.Test.YtcbfefamemidnaaDoorRow
import Derived.Deep.QuietTactic
import Derived.BigQuiet
import Derived.Deep.RegionWith
import Derived.Lib.Hide
import Derived.Lib.Slices
import Derived.OwnWalk
import Derived.WalkKit
import Derived.BigCall
import Derived.Below
namespace Go.Proofs.YtcbfefamemidnaaDoor
open Go.RowKit

theorem info_i64 : (Tryd.prog.info? 2).map (fun i => (i.zero, i.size, i.bytes)) = some (some (.int .i64 0), 1, 8) := by kernel_rfl
abbrev mkI (z : Int) : Value := .int .i64 z
/-- The cells after k rounds of a copy. -/
def filled (zs : List Int) (k : Nat) : List Value := (zs.take k ++ List.replicate (zs.length - k) 0).map mkI
theorem filled_zero (zs : List Int) : filled zs 0 = List.replicate zs.length (.int .i64 0) := by simp [filled]
theorem filled_set (zs : List Int) (k : Nat) (h : k < zs.length) : (filled zs k).set k (.int .i64 (zs.getD k 0)) = filled zs (k + 1) := by
  unfold filled
  have h1 : zs.take (k + 1) = zs.take k ++ [zs[k]] := List.take_succ_eq_append_getElem h
  have h2 : List.replicate (zs.length - k) (0 : Int) = 0 :: List.replicate (zs.length - (k + 1)) 0 := by
    rw [show zs.length - k = (zs.length - (k + 1)) + 1 by omega, List.replicate_succ]
  have h3 : zs.getD k 0 = zs[k] := by simp [List.getD, h]
  have h4 : (List.map mkI (List.take k zs)).length = k := by simp; omega
  rw [h1, h2, h3, List.map_append, List.map_append, List.map_append, List.map_cons, List.set_append_right _ _ (by omega), h4, Nat.sub_self]
  simp
theorem filled_end (zs : List Int) : filled zs zs.length = zs.map mkI := by simp [filled]
theorem row_of_own {w : World} {B e : Nat} {a : Option Addr} {len cap n : Nat} {zs : List Int} (h : w.ownsRow B e 1 (.slice a len cap) n (zs.map mkI)) : len = n ∧ IsIRow w a len cap zs := by
  obtain ⟨h1, h2⟩ := h
  simp only [List.length_map, Nat.mul_one] at h1
  rcases h2 with ⟨hv, hn⟩ | ⟨g, c, cur, hv, hb, hg, hnc, hcm, hcs, htake⟩
  · simp only [Value.slice.injEq] at hv
    obtain ⟨rfl, rfl, rfl⟩ := hv
    refine ⟨hn.symm, by omega, Nat.le_refl _, Nat.zero_le _, .inl (List.eq_nil_of_length_eq_zero (by omega))⟩
  · simp only [Value.slice.injEq] at hv
    obtain ⟨rfl, rfl, rfl⟩ := hv
    refine ⟨rfl, h1, hnc, hcm, .inr ⟨g, 0, rfl, (Array.getElem?_eq_some_iff.1 hg).1, ?_⟩⟩
    intro i hi
    have h3 : (zs.map mkI)[i]? = some (mkI (zs.getD i 0)) := by
      have : i < zs.length := by omega
      simp [List.getD, this]
    rw [Nat.zero_add, cell_of_row w g i cur e (0, 0) hg, ← h3, ← htake, List.getElem?_take, if_pos (by omega)]
    simp
theorem row_below {w w' : World} {a : Option Addr} {len cap : Nat} {zs : List Int} (h : IsIRow w a len cap zs) (hb : Below w.heap.size w w') : IsIRow w' a len cap zs := by
  obtain ⟨h1, h2, h3, h4⟩ := h
  refine ⟨h1, h2, h3, ?_⟩
  rcases h4 with h4 | ⟨b, off, rfl, hlt, hc⟩
  · exact .inl h4
  · exact .inr ⟨b, off, rfl, Nat.lt_of_lt_of_le hlt hb.size, fun i hi => by rw [hb.cell (p := ⟨b, off + i, none⟩) hlt]; exact hc i hi⟩
theorem own_below {w w' : World} {B e s n : Nat} {v : Value} {xs : List Value} (h : w.ownsRow B e s v n xs) (hb : Below w.heap.size w w') : w'.ownsRow B e s v n xs := by
  refine ⟨h.1, ?_⟩
  rcases h.2 with hn | ⟨g, cap, cur, rfl, hB, hg, rest⟩
  · exact .inl hn
  · exact .inr ⟨g, cap, cur, rfl, hB, by rw [hb.block g (Array.getElem?_eq_some_iff.1 hg).1]; exact hg, rest⟩
theorem own_mono {w : World} {B B' e s n : Nat} {v : Value} {xs : List Value} (h : w.ownsRow B e s v n xs) (hB : B' ≤ B) : w.ownsRow B' e s v n xs := by
  refine ⟨h.1, ?_⟩
  rcases h.2 with hn | ⟨g, cap, cur, rfl, hB', rest⟩
  · exact .inl hn
  · exact .inr ⟨g, cap, cur, rfl, Nat.le_trans hB hB', rest⟩

set_option maxHeartbeats 400000 in
theorem toI_any (a : Option Addr) (len cap : Nat) (zs : List Int) (w : World) (hr : IsIRow w a len cap zs) (hl : len ≤ 1048576) :
    Calls Tryd.prog 18 #[.slice a len cap] w fun e w' => e = .returned (.slice (some ⟨w.heap.size, 0, none⟩) len len) ∧
      w'.ownsRow w.heap.size 2 1 (.slice (some ⟨w.heap.size, 0, none⟩) len len) len (zs.map mkI) ∧ Below w.heap.size w w' := by
  obtain ⟨i0, hi, hz0, hz1, hz2⟩ := info_parts info_i64
  obtain ⟨h1, h2, h3, h4⟩ := hr
  go_enter Tryd.func18, Tryd.ntmps18
  go_wp2_with (at_make; refine wpList_make_full _ rfl _ _ 27 rfl w.heap.size 2 i0 (.int .i64 0) 1 Tryd.underlying27 hi hz0 hz1 _ _ _ _ len rfl rfl rfl rfl (by rw [hz2]; omega) (by unfold maxLen; omega) (Nat.le_refl _) ?_)
  intro w1 hown hgrow
  have hb1 : Below w.heap.size w w1 := (Below.refl _ _).grown hgrow (Nat.le_refl _) (by simp)
  have hown' : w1.ownsRow w.heap.size 2 1 (.slice (some ⟨w.heap.size, 0, none⟩) len len) len (filled zs 0) := by
    rw [filled_zero, h1, ← toList_madeCells_one]
    exact hown
  clear hown hgrow
  go_wp2
  go_loopw [4] (fun i wr => ∃ k : Nat, k ≤ len ∧ i = .int .i64 k ∧ wr.ownsRow w.heap.size 2 1 (.slice (some ⟨w.heap.size, 0, none⟩) len len) len (filled zs k) ∧ Below w.heap.size w wr) (fun i _ => len - (intOf i).toNat)
  case atStart => exact ⟨0, Nat.zero_le _, rfl, hown', hb1⟩
  case round =>
    obtain ⟨k, hk, rfl, ho, hb⟩ := hrel
    by_cases hlt : k < len
    · rcases h4 with h4 | ⟨b, off, rfl, hbl, hc⟩
      · exfalso; rw [h4] at h1; simp at h1; omega
      · have hc1 : wr.cell? ⟨b, off + k, none⟩ = some (.int .i64 (zs.getD k 0)) := by rw [hb.cell (p := ⟨b, off + k, none⟩) hbl]; exact hc k hlt
        have hc2 : ∃ u, wr.cell? ⟨w.heap.size, k, none⟩ = some u := by
          rw [ho.cellAt k (by omega)]
          exact ⟨_, List.getElem?_eq_getElem (by rw [ho.1]; omega)⟩
        obtain ⟨u, hc2⟩ := hc2
        have hf := ho.frozenAt k
        have hst := (ho.stored k (.int .i64 (zs.getD k 0))).1
        rw [filled_set zs k (by omega)] at hst
        have hbs := hb.setCell (p := ⟨w.heap.size, k, none⟩) (Nat.le_refl _) (.int .i64 (zs.getD k 0))
        generalize zs.getD k 0 = z at *
        have HS := Lib.hid hst
        clear hst hc ho
        go_wp2
        go_roundw
        case rel => exact ⟨k + 1, by omega, by go_num, HS.out, hbs⟩
        case measure => simp [intOf]; omega
    · have hke : k = zs.length := by omega
      rw [hke, filled_end] at ho
      have HO := Lib.hid ho
      clear ho hke h4
      go_wp2
      go_ret
      exact ⟨rfl, HO.out, hb⟩

/-! ### Compared -/
set_option maxHeartbeats 1000000 in
theorem eqI_any (a b : Option Addr) (len cap cap' : Nat) (xs : List Int) (w : World) (hx : IsIRow w a len cap xs) (hy : IsIRow w b len cap' xs) (hl : len ≤ 1048576) :
    Calls Tryd.prog 20 #[.slice a len cap, .slice b len cap'] w fun e w' => e = .returned (.bool true) ∧ ∃ n, w' = w.drewN n := by
  obtain ⟨hx1, hx2, hx3, hx4⟩ := hx
  obtain ⟨hy1, hy2, hy3, hy4⟩ := hy
  go_enter Tryd.func20, Tryd.ntmps20
  go_wp2
  go_loopw [5] (fun i wr => ∃ k : Nat, k ≤ len ∧ i = .int .i64 k ∧ ∃ n, wr = w.drewN n) (fun i _ => len - (intOf i).toNat)
  case atStart => exact ⟨0, Nat.zero_le _, rfl, 0, rfl⟩
  case round =>
    obtain ⟨k, hk, rfl, n, hwr⟩ := hrel
    have hcw : ∀ p, wr.cell? p = w.cell? p := by intro p; rw [hwr]; rfl
    have HW := Lib.hid hwr
    clear hwr
    by_cases hlt : k < len
    · rcases hx4 with hx4 | ⟨g, off, rfl, hgl, hcx⟩
      · exfalso; rw [hx4] at hx1; simp at hx1; omega
      rcases hy4 with hy4 | ⟨g', off', rfl, hgl', hcy⟩
      · exfalso; rw [hy4] at hy1; simp at hy1; omega
      have hc1 : wr.cell? ⟨g, off + k, none⟩ = some (.int .i64 (xs.getD k 0)) := by rw [hcw]; exact hcx k hlt
      have hc2 : wr.cell? ⟨g', off' + k, none⟩ = some (.int .i64 (xs.getD k 0)) := by rw [hcw]; exact hcy k hlt
      clear hcx hcy hx1 hy1 hcw
      generalize xs.getD k 0 = x at *
      have hz := World.drewN_zero
      go_wp2_with fail
      go_quiet (fail)
      go_wp2
      go_roundw
      case rel => exact ⟨k + 1, by omega, by go_num, _, by rw [HW.out, World.drewN_drewN]⟩
      case measure => simp [intOf]; omega
    · obtain rfl : k = len := by omega
      clear hcw hx1 hy1 hx4 hy4
      go_wp2
      go_ret
      exact ⟨rfl, _, HW.out⟩
/-! ### Marked and held -/
/-- The marks k, k + 1 .. as integers. -/
def marks (k : Int) (n : Nat) : List Int := (List.range n).map fun i : Nat => k + (i : Int)
theorem marks_len (k : Int) (n : Nat) : (marks k n).length = n := by simp [marks]
theorem marks_at (k : Int) (n i : Nat) (h : i < n) : (marks k n).getD i 0 = k + (i : Int) := by simp [marks, List.getD, h]
/-- The cells after i rounds of marking. -/
def marking (k : Int) (xs : List Int) (i : Nat) : List Value := ((marks k xs.length).take i ++ xs.drop i).map mkI
theorem marking_zero (k : Int) (xs : List Int) : marking k xs 0 = xs.map mkI := by simp [marking]
theorem marking_end (k : Int) (xs : List Int) : marking k xs xs.length = (marks k xs.length).map mkI := by
  unfold marking
  rw [List.take_of_length_le (by rw [marks_len]; exact Nat.le_refl _), List.drop_of_length_le (Nat.le_refl _), List.append_nil]
theorem marking_set (k : Int) (xs : List Int) (i : Nat) (h : i < xs.length) : (marking k xs i).set i (.int .i64 (k + (i : Int))) = marking k xs (i + 1) := by
  unfold marking
  have hl : i < (marks k xs.length).length := by rw [marks_len]; exact h
  have h1 : (marks k xs.length).take (i + 1) = (marks k xs.length).take i ++ [(marks k xs.length)[i]] := List.take_succ_eq_append_getElem hl
  have h2 : xs.drop i = xs[i] :: xs.drop (i + 1) := List.drop_eq_getElem_cons h
  have h3 : (marks k xs.length)[i] = k + (i : Int) := by simp [marks]
  have h4 : (List.map mkI (List.take i (marks k xs.length))).length = i := by simp [marks_len]; omega
  rw [h1, h2, h3, List.map_append, List.map_append, List.map_append, List.map_cons, List.set_append_right _ _ (by omega), h4, Nat.sub_self]
  simp
theorem grown_trans {w w1 w2 : World} {r : Option Nat} (h : w.grownBy w1 r) (k : w1.grownBy w2 r) : w.grownBy w2 r :=
  ⟨k.os.trans h.os, k.tape.trans h.tape, k.output.trans h.output, Nat.le_trans h.size k.size, fun b hb hr => (k.block b (Nat.lt_of_lt_of_le hb h.size) hr).trans (h.block b hb hr)⟩
set_option maxHeartbeats 400000 in
theorem markI_any (B : Nat) (a : Option Addr) (len cap : Nat) (xs : List Int) (k0 : Int) (w : World) (ho : w.ownsRow B 2 1 (.slice a len cap) len (xs.map mkI)) (hl : len ≤ 1048576) (hk0 : 0 ≤ k0) (hk1 : k0 ≤ 16777216) :
    Calls Tryd.prog 23 #[.slice a len cap, .int .i64 k0] w fun e w' => e = .returned (.int .i64 (k0 + (len : Int))) ∧
      w'.ownsRow B 2 1 (.slice a len cap) len ((marks k0 len).map mkI) ∧ w.grownBy w' (Value.slice a len cap).ownBlock := by
  have hxl : xs.length = len := by have := ho.1; simpa using this
  go_enter Tryd.func23, Tryd.ntmps23
  go_wp2
  go_loopw [1, 5] (fun t i wr => ∃ k : Nat, k ≤ len ∧ i = .int .i64 k ∧ t = .int .i64 (k0 + (k : Int)) ∧ wr.ownsRow B 2 1 (.slice a len cap) len (marking k0 xs k) ∧ w.grownBy wr (Value.slice a len cap).ownBlock) (fun _ i _ => len - (intOf i).toNat)
  case atStart => exact ⟨0, Nat.zero_le _, rfl, by simp, by rw [marking_zero]; exact ho, World.grownBy.refl _ _⟩
  case round =>
    obtain ⟨k, hk, rfl, rfl, ho', hg⟩ := hrel
    by_cases hlt : k < len
    · rcases ho.2 with ⟨hv, hn⟩ | ⟨g, c, cur, hv, _⟩
      · exfalso; omega
      simp only [Value.slice.injEq] at hv
      obtain ⟨rfl, _, rfl⟩ := hv
      have hc2 : ∃ u, wr.cell? ⟨g, k, none⟩ = some u := by
        rw [ho'.cellAt k (by omega)]
        exact ⟨_, List.getElem?_eq_getElem (by rw [ho'.1]; omega)⟩
      obtain ⟨u, hc2⟩ := hc2
      have hf := ho'.frozenAt k
      have hst := ho'.stored k (.int .i64 (k0 + (k : Int)))
      rw [marking_set k0 xs k (by omega)] at hst
      have HS := Lib.hid hst
      have HG := Lib.hid hg
      clear hst hg ho ho' hxl
      go_wp2
      go_roundw
      case rel => exact ⟨k + 1, by omega, by go_num, by go_num, HS.out.1, grown_trans HG.out HS.out.2⟩
      case measure => simp [intOf]; omega
    · obtain rfl : k = len := by omega
      have he := marking_end k0 xs
      rw [hxl] at he
      rw [he] at ho'
      have HO := Lib.hid ho'
      have HG := Lib.hid hg
      clear ho' ho he hxl hg
      go_wp2
      go_ret
      exact ⟨rfl, HO.out, HG.out⟩
set_option maxHeartbeats 400000 in
theorem heldI_any (a : Option Addr) (len cap : Nat) (k0 : Int) (w : World) (hr : IsIRow w a len cap (marks k0 len)) (hl : len ≤ 1048576) (hk0 : 0 ≤ k0) (hk1 : k0 ≤ 16777216) :
    Calls Tryd.prog 24 #[.slice a len cap, .int .i64 k0] w fun e w' => e = .returned (.int .i64 (k0 + (len : Int))) ∧ w = w' := by
  obtain ⟨h1, h2, h3, h4⟩ := hr
  go_enter Tryd.func24, Tryd.ntmps24
  go_wp2
  go_loop [1, 5] (fun t i => ∃ k : Nat, k ≤ len ∧ i = .int .i64 k ∧ t = .int .i64 (k0 + (k : Int))) (fun _ i => len - (intOf i).toNat)
  case atStart => exact ⟨0, Nat.zero_le _, rfl, by simp⟩
  case round =>
    obtain ⟨k, hk, rfl, rfl⟩ := hrel
    by_cases hlt : k < len
    · rcases h4 with h4 | ⟨b, off, rfl, hbl, hc⟩
      · exfalso; rw [h4] at h1; simp at h1; omega
      · have hc1 : w.cell? ⟨b, off + k, none⟩ = some (.int .i64 (k0 + (k : Int))) := by rw [hc k hlt, marks_at k0 len k hlt]
        clear hc h1
        go_wp2
        go_round
        case rel => exact ⟨k + 1, by omega, by go_num, by go_num⟩
        case measure => simp [intOf]; omega
    · obtain rfl : k = len := by omega
      go_wp2
      go_ret
      exact ⟨rfl, rfl⟩
end Go.Proofs.YtcbfefamemidnaaDoor

