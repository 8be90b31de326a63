/-
  Slices of 32-bit floats in the laws: copied, compared, marked, held.
-/
import Derived.Test.YtcbfefamemidnaaDoorSame4
import Derived.Test.YtcbfefamemidnaaDoorRow
import Derived.Deep.QuietTactic
import Derived.BigQuiet
import Derived.Deep.RegionWith
import Derived.Lib.Hide
namespace Go.Proofs.YtcbfefamemidnaaDoor
open Go.RowKit

theorem info_f32 : (Tryd.prog.info? 60).map (fun i => (i.zero, i.size, i.bytes)) = some (some (.float .f32 0), 1, 4) := by kernel_rfl
section
variable {P : Program} {w : World} {a : Addr} {m : Mode}
@[go_sem] theorem run_store_float (k : FloatKind) (b : Nat) : (store a (.float k b) m).run P w = stored P w a (.float k b) m := run_store P w a _ m rfl
@[go_sem] theorem run_store_complex (k : FloatKind) (b c : Nat) : (store a (.complex k b c) m).run P w = stored P w a (.complex k b c) m := run_store P w a _ m rfl
end
abbrev mkF (z : Nat) : Value := .float .f32 z
/-- The cells after k rounds of a copy. -/
def filled (zs : List Nat) (k : Nat) : List Value := (zs.take k ++ List.replicate (zs.length - k) 0).map mkF
theorem filled_zero (zs : List Nat) : filled zs 0 = List.replicate zs.length (.float .f32 0) := by simp [filled]
theorem filled_set (zs : List Nat) (k : Nat) (h : k < zs.length) : (filled zs k).set k (.float .f32 (zs.getD k 0)) = filled zs (k + 1) := by
  unfold filled
  have h1 : zs.take (k + 1) = zs.take k ++ [zs[k]] := List.take_succ_eq_append_getElem h
  have h2 : List.replicate (zs.length - k) 0 = 0 :: List.replicate (zs.length - (k + 1)) 0 := by
    rw [show zs.length - k = (zs.length - (k + 1)) + 1 by omega, List.replicate_succ]
  have h3 : zs.getD k 0 = zs[k] := by simp [List.getD, h]
  have h4 : (List.map mkF (List.take k zs)).length = k := by simp; omega
  rw [h1, h2, h3, List.map_append, List.map_append, List.map_append, List.map_cons, List.set_append_right _ _ (by omega), h4, Nat.sub_self]
  simp
theorem filled_end (zs : List Nat) : filled zs zs.length = zs.map mkF := by simp [filled]
theorem row_of_own {w : World} {B e : Nat} {a : Option Addr} {len cap n : Nat} {zs : List Nat} (h : w.ownsRow B e 1 (.slice a len cap) n (zs.map mkF)) : len = n ∧ IsRow mkF w a len cap zs := by
  obtain ⟨h1, h2⟩ := h
  simp only [List.length_map, Nat.mul_one] at h1
  rcases h2 with ⟨hv, hn⟩ | ⟨g, c, cur, hv, hb, hg, hnc, hcm, hcs, htake⟩
  · simp only [Value.slice.injEq] at hv
    obtain ⟨rfl, rfl, rfl⟩ := hv
    refine ⟨hn.symm, by omega, Nat.le_refl _, Nat.zero_le _, .inl (List.eq_nil_of_length_eq_zero (by omega))⟩
  · simp only [Value.slice.injEq] at hv
    obtain ⟨rfl, rfl, rfl⟩ := hv
    refine ⟨rfl, h1, hnc, hcm, .inr ⟨g, 0, rfl, (Array.getElem?_eq_some_iff.1 hg).1, ?_⟩⟩
    intro i hi
    have h3 : (zs.map mkF)[i]? = some (mkF (zs.getD i 0)) := by
      have : i < zs.length := by omega
      simp [List.getD, this]
    rw [Nat.zero_add, cell_of_row w g i cur e (0, 0) hg, ← h3, ← htake, List.getElem?_take, if_pos (by omega)]
    simp
theorem row_below {w w' : World} {a : Option Addr} {len cap : Nat} {zs : List Nat} {mk : Nat → Value} (h : IsRow mk w a len cap zs) (hb : Below w.heap.size w w') : IsRow mk w' a len cap zs := by
  obtain ⟨h1, h2, h3, h4⟩ := h
  refine ⟨h1, h2, h3, ?_⟩
  rcases h4 with h4 | ⟨b, off, rfl, hlt, hc⟩
  · exact .inl h4
  · exact .inr ⟨b, off, rfl, Nat.lt_of_lt_of_le hlt hb.size, fun i hi => by rw [hb.cell (p := ⟨b, off + i, none⟩) hlt]; exact hc i hi⟩
theorem own_below {w w' : World} {B e s n : Nat} {v : Value} {xs : List Value} (h : w.ownsRow B e s v n xs) (hb : Below w.heap.size w w') : w'.ownsRow B e s v n xs := by
  refine ⟨h.1, ?_⟩
  rcases h.2 with hn | ⟨g, cap, cur, rfl, hB, hg, rest⟩
  · exact .inl hn
  · exact .inr ⟨g, cap, cur, rfl, hB, by rw [hb.block g (Array.getElem?_eq_some_iff.1 hg).1]; exact hg, rest⟩
theorem own_mono {w : World} {B B' e s n : Nat} {v : Value} {xs : List Value} (h : w.ownsRow B e s v n xs) (hB : B' ≤ B) : w.ownsRow B' e s v n xs := by
  refine ⟨h.1, ?_⟩
  rcases h.2 with hn | ⟨g, cap, cur, rfl, hB', rest⟩
  · exact .inl hn
  · exact .inr ⟨g, cap, cur, rfl, Nat.le_trans hB hB', rest⟩

set_option maxHeartbeats 400000 in
theorem toF_any (a : Option Addr) (len cap : Nat) (zs : List Nat) (w : World) (hr : IsRow mkF w a len cap zs) (hl : len ≤ 1048576) :
    Calls Tryd.prog 26 #[.slice a len cap] w fun e w' => e = .returned (.slice (some ⟨w.heap.size, 0, none⟩) len len) ∧
      w'.ownsRow w.heap.size 60 1 (.slice (some ⟨w.heap.size, 0, none⟩) len len) len (zs.map mkF) ∧ Below w.heap.size w w' := by
  obtain ⟨i0, hi, hz0, hz1, hz2⟩ := info_parts info_f32
  obtain ⟨h1, h2, h3, h4⟩ := hr
  go_enter Tryd.func26, Tryd.ntmps26
  go_wp2_with (at_make; refine wpList_make_full _ rfl _ _ 36 rfl w.heap.size 60 i0 (.float .f32 0) 1 Tryd.underlying36 hi hz0 hz1 _ _ _ _ len rfl rfl rfl rfl (by rw [hz2]; omega) (by unfold maxLen; omega) (Nat.le_refl _) ?_)
  intro w1 hown hgrow
  have hb1 : Below w.heap.size w w1 := (Below.refl _ _).grown hgrow (Nat.le_refl _) (by simp)
  have hown' : w1.ownsRow w.heap.size 60 1 (.slice (some ⟨w.heap.size, 0, none⟩) len len) len (filled zs 0) := by
    rw [filled_zero, h1, ← toList_madeCells_one]
    exact hown
  clear hown hgrow
  go_wp2
  go_loopw [4] (fun i wr => ∃ k : Nat, k ≤ len ∧ i = .int .i64 k ∧ wr.ownsRow w.heap.size 60 1 (.slice (some ⟨w.heap.size, 0, none⟩) len len) len (filled zs k) ∧ Below w.heap.size w wr) (fun i _ => len - (intOf i).toNat)
  case atStart => exact ⟨0, Nat.zero_le _, rfl, hown', hb1⟩
  case round =>
    obtain ⟨k, hk, rfl, ho, hb⟩ := hrel
    by_cases hlt : k < len
    · rcases h4 with h4 | ⟨b, off, rfl, hbl, hc⟩
      · exfalso; rw [h4] at h1; simp at h1; omega
      · have hc1 : wr.cell? ⟨b, off + k, none⟩ = some (.float .f32 (zs.getD k 0)) := by rw [hb.cell (p := ⟨b, off + k, none⟩) hbl]; exact hc k hlt
        have hc2 : ∃ u, wr.cell? ⟨w.heap.size, k, none⟩ = some u := by
          rw [ho.cellAt k (by omega)]
          exact ⟨_, List.getElem?_eq_getElem (by rw [ho.1]; omega)⟩
        obtain ⟨u, hc2⟩ := hc2
        have hf := ho.frozenAt k
        have hst := (ho.stored k (.float .f32 (zs.getD k 0))).1
        rw [filled_set zs k (by omega)] at hst
        have hbs := hb.setCell (p := ⟨w.heap.size, k, none⟩) (Nat.le_refl _) (.float .f32 (zs.getD k 0))
        generalize zs.getD k 0 = z at *
        have HS := Lib.hid hst
        clear hst hc ho
        go_wp2
        go_roundw
        case rel => exact ⟨k + 1, by omega, by go_num, HS.out, hbs⟩
        case measure => simp [intOf]; omega
    · have hke : k = zs.length := by omega
      rw [hke, filled_end] at ho
      have HO := Lib.hid ho
      clear ho hke h4
      go_wp2
      go_ret
      exact ⟨rfl, HO.out, hb⟩

/-! ### Compared -/
theorem conv_fixed {x : Nat} (h : isN .f32 x = false) : ∃ c, isN .f64 c = false ∧ (∀ W : World, cv .f32 .f64 x W = c) ∧ cd .f32 .f64 x = 0 := by
  cases hf : fin .f32 x
  · have hw := widen_inf h hf
    exact ⟨_, conv_notNaN h hw, fun W => by unfold cv; rw [hw]; rfl, by unfold cd; rw [hw]; rfl⟩
  · have hw := widen_fin hf
    exact ⟨_, conv_notNaN h hw, fun W => by unfold cv; rw [hw]; rfl, by unfold cd; rw [hw]; rfl⟩
set_option maxHeartbeats 1000000 in
theorem eqF_any (a b : Option Addr) (len cap len' cap' : Nat) (xs ys : List Nat) (w : World) (hx : IsRow mkF w a len cap xs) (hy : IsRow mkF w b len' cap' ys) (h : xs.map (cn .f32) = ys.map (cn .f32)) (hl : len ≤ 1048576) :
    Calls Tryd.prog 28 #[.slice a len cap, .slice b len' cap'] w fun e w' => e = .returned (.bool true) ∧ ∃ n, w' = w.drewN n := by
  have hlen : len' = len := by
    have h1 := congrArg List.length h
    simp only [List.length_map] at h1
    rw [hx.1, hy.1] at h1
    exact h1.symm
  subst hlen
  have each : ∀ i, i < len' → cn .f32 (xs.getD i 0) = cn .f32 (ys.getD i 0) := by
    intro i hi
    have h1 : (xs.map (cn .f32)).getD i 0 = (ys.map (cn .f32)).getD i 0 := by rw [h]
    have e1 : i < xs.length := by rw [hx.1]; exact hi
    have e2 : i < ys.length := by rw [hy.1]; exact hi
    simpa [List.getD, e1, e2] using h1
  obtain ⟨hx1, hx2, hx3, hx4⟩ := hx
  obtain ⟨hy1, hy2, hy3, hy4⟩ := hy
  clear h
  go_enter Tryd.func28, Tryd.ntmps28
  go_wp2
  go_loopw [5] (fun i wr => ∃ k : Nat, k ≤ len' ∧ i = .int .i64 k ∧ ∃ n, wr = w.drewN n) (fun i _ => len' - (intOf i).toNat)
  case atStart => exact ⟨0, Nat.zero_le _, rfl, 0, rfl⟩
  case round =>
    obtain ⟨k, hk, rfl, n, hwr⟩ := hrel
    have hcw : ∀ p, wr.cell? p = w.cell? p := by intro p; rw [hwr]; rfl
    have HW := Lib.hid hwr
    clear hwr
    by_cases hlt : k < len'
    · rcases hx4 with hx4 | ⟨g, off, rfl, hgl, hcx⟩
      · exfalso; rw [hx4] at hx1; simp at hx1; omega
      rcases hy4 with hy4 | ⟨g', off', rfl, hgl', hcy⟩
      · exfalso; rw [hy4] at hy1; simp at hy1; omega
      have hc1 : wr.cell? ⟨g, off + k, none⟩ = some (.float .f32 (xs.getD k 0)) := by rw [hcw]; exact hcx k hlt
      have hc2 : wr.cell? ⟨g', off' + k, none⟩ = some (.float .f32 (ys.getD k 0)) := by rw [hcw]; exact hcy k hlt
      have he := each k hlt
      clear hcx hcy each hx1 hy1 hcw
      generalize xs.getD k 0 = x at *
      generalize ys.getD k 0 = y at *
      cases hn : isN .f32 x
      · have hn' : isN .f32 y = false := by rw [← isN_cn, ← he, isN_cn, hn]
        obtain rfl : x = y := by rw [cn_of_not hn, cn_of_not hn'] at he; exact he
        obtain ⟨c, hcc, hcv, hcd⟩ := conv_fixed hn
        have hz := World.drewN_zero
        clear he hn hn'
        go_wp2_with fail
        go_quiet ((go_at_call 55; exact Calls.quiet_of (sameFloat_any _ _ _ rfl)))
        go_wp2
        go_roundw
        case rel => exact ⟨k + 1, by omega, by go_num, _, by rw [HW.out, World.drewN_drewN]⟩
        case measure => simp [intOf]; omega
      · have hn' : isN .f32 y = true := by rw [← isN_cn, ← he, isN_cn, hn]
        have hq : ∀ W W' : World, cn .f64 (cv .f32 .f64 x W) = cn .f64 (cv .f32 .f64 y W') := fun W W' => by rw [cn_widen, cn_widen, he]
        clear he hn hn'
        go_wp2_with fail
        go_region_with (go_at_call 55; refine (sameFloat_any _ _ _ (hq _ _)).mono ?_; rintro e w' ⟨rfl, n3, rfl⟩)
        all_goals
          go_wp2
          go_roundw
          case rel =>
            refine ⟨k + 1, by omega, by go_num, ?_⟩
            rw [HW.out]
            simp only [World.drewN_drewN]
            exact ⟨_, rfl⟩
          case measure => simp [intOf]; omega
    · obtain rfl : k = len' := by omega
      go_wp2
      go_ret
      exact ⟨rfl, _, HW.out⟩
end Go.Proofs.YtcbfefamemidnaaDoor
