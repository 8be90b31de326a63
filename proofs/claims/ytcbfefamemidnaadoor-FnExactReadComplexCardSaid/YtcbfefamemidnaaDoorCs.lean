/-
  Slices of complex numbers in the laws: compared, marked, held.
-/
import Derived.Test.YtcbfefamemidnaaDoorMk4
namespace Go.Proofs.YtcbfefamemidnaaDoor
open Go.RowKit
set_option linter.unusedVariables false

@[go_sem] theorem complex_rule (ats : Array TypeId) (ty : TypeId) (k : FloatKind) (a b : Nat) : Builtin.complex_ ats ty #[.float k a, .float k b] = pure (.complex k a b) := if_pos rfl
@[go_sem] theorem real_rule (ats : Array TypeId) (ty : TypeId) (k : FloatKind) (a b : Nat) : Builtin.real_ ats ty #[.complex k a b] = pure (.float k a) := rfl
@[go_sem] theorem imag_rule (ats : Array TypeId) (ty : TypeId) (k : FloatKind) (a b : Nat) : Builtin.imag_ ats ty #[.complex k a b] = pure (.float k b) := rfl
@[go_sem] theorem run_convert_cc {P : Program} (w : World) (src dst : TypeId) (s k : FloatKind) (a b : Nat) (hs : (P.underlying src).isSome = true) (hd : P.underlying dst = some (.complex k)) :
    (convert src dst (.complex s a b)).run P w = .ok (.complex k (cv s k a w) (cv s k b (w.drewN (cd s k a)))) ((w.drewN (cd s k a)).drewN (cd s k b)) := by
  obtain ⟨u, hs'⟩ := Option.isSome_iff_exists.1 hs
  have h1 := run_fconv (P := P) w s k a
  have h2 := run_fconv (P := P) (w.drewN (cd s k a)) s k b
  cases u <;> simp [convert, run_underlying hs', run_underlying hd, Conv.complexToComplex, h1, h2]

set_option maxHeartbeats 400000 in
theorem sameComplex_any (a b c d : Nat) (w : World) (h : cn .f64 a = cn .f64 c) (h2 : cn .f64 b = cn .f64 d) :
    Calls Tryd.prog 62 #[.complex .f64 a b, .complex .f64 c d] w fun e w' => e = .returned (.bool true) ∧ ∃ n, w' = w.drewN n := by
  go_enter Tryd.func62, Tryd.ntmps62
  go_wp2_with fail
  refine (sameFloat_any _ _ _ h).mono ?_
  rintro e w' ⟨rfl, n, rfl⟩
  go_wp2_with fail
  refine (sameFloat_any _ _ _ h2).mono ?_
  rintro e w' ⟨rfl, n2, rfl⟩
  go_wp2
  go_ret
  exact ⟨rfl, _, rfl⟩
abbrev mkC (z : Nat × Nat) : Value := .complex .f32 z.1 z.2
def IsCRow (w : World) (a : Option Addr) (len cap : Nat) (zs : List (Nat × Nat)) : Prop :=
  zs.length = len ∧ len ≤ cap ∧ cap ≤ maxLen ∧ (zs = [] ∨ ∃ b off, a = some ⟨b, off, none⟩ ∧ b < w.heap.size ∧ ∀ i, i < len → w.cell? ⟨b, off + i, none⟩ = some (.complex .f32 (zs.getD i (0, 0)).1 (zs.getD i (0, 0)).2))
theorem row_of_ownC {w : World} {B e : Nat} {a : Option Addr} {len cap n : Nat} {zs : List (Nat × Nat)} (h : w.ownsRow B e 1 (.slice a len cap) n (zs.map mkC)) : len = n ∧ IsCRow w a len cap zs := by
  obtain ⟨h1, h2⟩ := h
  simp only [List.length_map, Nat.mul_one] at h1
  rcases h2 with ⟨hv, hn⟩ | ⟨g, c, cur, hv, hb, hg, hnc, hcm, hcs, htake⟩
  · simp only [Value.slice.injEq] at hv
    obtain ⟨rfl, rfl, rfl⟩ := hv
    refine ⟨hn.symm, by omega, Nat.le_refl _, Nat.zero_le _, .inl (List.eq_nil_of_length_eq_zero (by omega))⟩
  · simp only [Value.slice.injEq] at hv
    obtain ⟨rfl, rfl, rfl⟩ := hv
    refine ⟨rfl, h1, hnc, hcm, .inr ⟨g, 0, rfl, (Array.getElem?_eq_some_iff.1 hg).1, ?_⟩⟩
    intro i hi
    have h3 : (zs.map mkC)[i]? = some (mkC (zs.getD i (0, 0))) := by
      have : i < zs.length := by omega
      simp [List.getD, this]
    rw [Nat.zero_add, cell_of_row w g i cur e (0, 0) hg, ← h3, ← htake, List.getElem?_take, if_pos (by omega)]
    simp
theorem mark_fin : ∀ z : Fin 300, floatToFloatBits .f64 (floatOfInt .f64 (z.val : Int)) .f32 = some (floatOfInt .f32 (z.val : Int)) := by decide +kernel
theorem mark_some {z : Int} (h0 : 0 ≤ z) (h1 : z < 300) : floatToFloatBits .f64 (floatOfInt .f64 z) .f32 = some (floatOfInt .f32 z) := by
  have := mark_fin ⟨z.toNat, by omega⟩
  rwa [show ((z.toNat : Nat) : Int) = z by omega] at this
theorem narrow_mark {z : Int} (h0 : 0 ≤ z) (h1 : z < 300) (W : World) : cv .f64 .f32 (floatOfInt .f64 z) W = floatOfInt .f32 z := by unfold cv; rw [mark_some h0 h1]; rfl
theorem narrow_markd {z : Int} (h0 : 0 ≤ z) (h1 : z < 300) : cd .f64 .f32 (floatOfInt .f64 z) = 0 := by unfold cd; rw [mark_some h0 h1]; rfl
theorem one_some : floatToFloatBits .f64 4607182418800017408 .f32 = some 1065353216 := by decide +kernel
theorem narrow_one (W : World) : cv .f64 .f32 4607182418800017408 W = 1065353216 := by unfold cv; rw [one_some]; rfl
theorem narrow_oned : cd .f64 .f32 4607182418800017408 = 0 := by unfold cd; rw [one_some]; rfl
set_option maxHeartbeats 1000000 in
theorem eqC_same (a b : Option Addr) (len cap cap' : Nat) (xs : List (Nat × Nat)) (w : World) (hx : IsCRow w a len cap xs) (hy : IsCRow w b len cap' xs) (hl : len ≤ 256) :
    Calls Tryd.prog 35 #[.slice a len cap, .slice b len cap'] w fun e w' => e = .returned (.bool true) ∧ ∃ n, w' = w.drewN n := by
  obtain ⟨hx1, hx2, hx3, hx4⟩ := hx
  obtain ⟨hy1, hy2, hy3, hy4⟩ := hy
  go_enter Tryd.func35, Tryd.ntmps35
  go_wp2
  go_loopw [5] (fun i wr => ∃ k : Nat, k ≤ len ∧ i = .int .i64 k ∧ ∃ n, wr = w.drewN n) (fun i _ => len - (intOf i).toNat)
  case atStart => exact ⟨0, Nat.zero_le _, rfl, 0, rfl⟩
  case round =>
    obtain ⟨k, hk, rfl, n, hwr⟩ := hrel
    have hcw : ∀ p, wr.cell? p = w.cell? p := by intro p; rw [hwr]; rfl
    have HW := Lib.hid hwr
    clear hwr
    by_cases hlt : k < len
    · rcases hx4 with hx4 | ⟨g, off, rfl, hgl, hcx⟩
      · exfalso; rw [hx4] at hx1; simp at hx1; omega
      rcases hy4 with hy4 | ⟨g', off', rfl, hgl', hcy⟩
      · exfalso; rw [hy4] at hy1; simp at hy1; omega
      have hc1 : wr.cell? ⟨g, off + k, none⟩ = some (.complex .f32 (xs.getD k (0, 0)).1 (xs.getD k (0, 0)).2) := by rw [hcw]; exact hcx k hlt
      have hc2 : wr.cell? ⟨g', off' + k, none⟩ = some (.complex .f32 (xs.getD k (0, 0)).1 (xs.getD k (0, 0)).2) := by rw [hcw]; exact hcy k hlt
      clear hcx hcy hx1 hy1 hcw
      generalize (xs.getD k (0, 0)).1 = x at *
      generalize (xs.getD k (0, 0)).2 = y at *
      have hq : ∀ (x : Nat) (W W' : World), cn .f64 (cv .f32 .f64 x W) = cn .f64 (cv .f32 .f64 x W') := fun x W W' => by rw [cn_widen, cn_widen]
      have HQ := Lib.hid hq
      clear hq
      go_wp2_with fail
      go_region_with (go_at_call 62; refine (sameComplex_any _ _ _ _ _ (HQ.out _ _ _) (HQ.out _ _ _)).mono ?_; rintro e w' ⟨rfl, n3, rfl⟩)
      all_goals
        go_wp2
        go_roundw
        case rel =>
          refine ⟨k + 1, by omega, by go_num, ?_⟩
          rw [HW.out]
          simp only [World.drewN_drewN]
          exact ⟨_, rfl⟩
        case measure => simp [intOf]; omega
    · obtain rfl : k = len := by omega
      go_wp2
      go_ret
      exact ⟨rfl, _, HW.out⟩
/-! ### Marked and held -/
/-- The marksC k, k + 1 .. as complex numbers. -/
def marksC (k : Int) (n : Nat) : List (Nat × Nat) := (List.range n).map fun i : Nat => (floatOfInt .f32 (k + (i : Int)), 1065353216)
theorem marksC_len (k : Int) (n : Nat) : (marksC k n).length = n := by simp [marksC]
theorem marksC_at (k : Int) (n i : Nat) (h : i < n) : (marksC k n).getD i (0, 0) = (floatOfInt .f32 (k + (i : Int)), 1065353216) := by simp [marksC, List.getD, h]
/-- The cells after i rounds of markingC. -/
def markingC (k : Int) (xs : List (Nat × Nat)) (i : Nat) : List Value := ((marksC k xs.length).take i ++ xs.drop i).map mkC
theorem markingC_zero (k : Int) (xs : List (Nat × Nat)) : markingC k xs 0 = xs.map mkC := by simp [markingC]
theorem markingC_end (k : Int) (xs : List (Nat × Nat)) : markingC k xs xs.length = (marksC k xs.length).map mkC := by
  unfold markingC
  rw [List.take_of_length_le (by rw [marksC_len]; exact Nat.le_refl _), List.drop_of_length_le (Nat.le_refl _), List.append_nil]
theorem markingC_set (k : Int) (xs : List (Nat × Nat)) (i : Nat) (h : i < xs.length) : (markingC k xs i).set i (.complex .f32 (floatOfInt .f32 (k + (i : Int))) 1065353216) = markingC k xs (i + 1) := by
  unfold markingC
  have hl : i < (marksC k xs.length).length := by rw [marksC_len]; exact h
  have h1 : (marksC k xs.length).take (i + 1) = (marksC k xs.length).take i ++ [(marksC k xs.length)[i]] := List.take_succ_eq_append_getElem hl
  have h2 : xs.drop i = xs[i] :: xs.drop (i + 1) := List.drop_eq_getElem_cons h
  have h3 : (marksC k xs.length)[i] = (floatOfInt .f32 (k + (i : Int)), 1065353216) := by simp [marksC]
  have h4 : (List.map mkC (List.take i (marksC k xs.length))).length = i := by simp [marksC_len]; omega
  rw [h1, h2, h3, List.map_append, List.map_append, List.map_append, List.map_cons, List.set_append_right _ _ (by omega), h4, Nat.sub_self]
  simp
set_option maxHeartbeats 400000 in
theorem markC_any (B : Nat) (a : Option Addr) (len cap : Nat) (xs : List (Nat × Nat)) (k0 : Int) (w : World) (ho : w.ownsRow B 68 1 (.slice a len cap) len (xs.map mkC)) (hl : len ≤ 256) (hk0 : 0 ≤ k0) (hk1 : k0 ≤ 1) :
    Calls Tryd.prog 36 #[.slice a len cap, .int .i64 k0] w fun e w' => e = .returned (.int .i64 (k0 + (len : Int))) ∧
      w'.ownsRow B 68 1 (.slice a len cap) len ((marksC k0 len).map mkC) ∧ w.grownBy w' (Value.slice a len cap).ownBlock := by
  have hxl : xs.length = len := by have := ho.1; simpa using this
  go_enter Tryd.func36, Tryd.ntmps36
  go_wp2
  go_loopw [1, 5] (fun t i wr => ∃ k : Nat, k ≤ len ∧ i = .int .i64 k ∧ t = .int .i64 (k0 + (k : Int)) ∧ wr.ownsRow B 68 1 (.slice a len cap) len (markingC k0 xs k) ∧ w.grownBy wr (Value.slice a len cap).ownBlock) (fun _ i _ => len - (intOf i).toNat)
  case atStart => exact ⟨0, Nat.zero_le _, rfl, by simp, by rw [markingC_zero]; exact ho, World.grownBy.refl _ _⟩
  case round =>
    obtain ⟨k, hk, rfl, rfl, ho', hg⟩ := hrel
    by_cases hlt : k < len
    · rcases ho.2 with ⟨hv, hn⟩ | ⟨g, c, cur, hv, _⟩
      · exfalso; omega
      simp only [Value.slice.injEq] at hv
      obtain ⟨rfl, _, rfl⟩ := hv
      have hc2 : ∃ u, wr.cell? ⟨g, k, none⟩ = some u := by
        rw [ho'.cellAt k (by omega)]
        exact ⟨_, List.getElem?_eq_getElem (by rw [ho'.1]; omega)⟩
      obtain ⟨u, hc2⟩ := hc2
      have hf := ho'.frozenAt k
      have hcv := fun W => narrow_mark (z := k0 + (k : Int)) (by omega) (by omega) W
      have hcd := narrow_markd (z := k0 + (k : Int)) (by omega) (by omega)
      have h1v := narrow_one
      have h1d := narrow_oned
      have hz := World.drewN_zero
      have hst := ho'.stored k (.complex .f32 (floatOfInt .f32 (k0 + (k : Int))) 1065353216)
      rw [markingC_set k0 xs k (by omega)] at hst
      have HS := Lib.hid hst
      have HG := Lib.hid hg
      clear hst hg ho ho' hxl
      go_wp2
      go_roundw
      case rel => exact ⟨k + 1, by omega, by go_num, by go_num, HS.out.1, grown_trans HG.out HS.out.2⟩
      case measure => simp [intOf]; omega
    · obtain rfl : k = len := by omega
      have he := markingC_end k0 xs
      rw [hxl] at he
      rw [he] at ho'
      have HO := Lib.hid ho'
      have HG := Lib.hid hg
      clear ho' ho he hxl hg
      go_wp2
      go_ret
      exact ⟨rfl, HO.out, HG.out⟩
set_option maxHeartbeats 400000 in
theorem heldC_any (a : Option Addr) (len cap : Nat) (k0 : Int) (w : World) (hr : IsCRow w a len cap (marksC k0 len)) (hl : len ≤ 256) (hk0 : 0 ≤ k0) (hk1 : k0 ≤ 1) :
    Calls Tryd.prog 37 #[.slice a len cap, .int .i64 k0] w fun e w' => e = .returned (.int .i64 (k0 + (len : Int))) ∧ w = w' := by
  obtain ⟨h1, h2, h3, h4⟩ := hr
  go_enter Tryd.func37, Tryd.ntmps37
  go_wp2
  go_loop [1, 5] (fun t i => ∃ k : Nat, k ≤ len ∧ i = .int .i64 k ∧ t = .int .i64 (k0 + (k : Int))) (fun _ i => len - (intOf i).toNat)
  case atStart => exact ⟨0, Nat.zero_le _, rfl, by simp⟩
  case round =>
    obtain ⟨k, hk, rfl, rfl⟩ := hrel
    by_cases hlt : k < len
    · rcases h4 with h4 | ⟨b, off, rfl, hbl, hc⟩
      · exfalso; rw [h4] at h1; simp at h1; omega
      · have hc1 : w.cell? ⟨b, off + k, none⟩ = some (.complex .f32 (floatOfInt .f32 (k0 + (k : Int))) 1065353216) := by rw [hc k hlt, marksC_at k0 len k hlt]
        have hs : (!FloatKind.f32.format.order (floatOfInt .f32 (k0 + (k : Int))) (floatOfInt .f32 (k0 + (k : Int))) == some .eq) = false := foi_self (k0 + (k : Int))
        have hs2 : (!FloatKind.f32.format.order 1065353216 1065353216 == some .eq) = false := by decide +kernel
        have hcv := fun W => narrow_mark (z := k0 + (k : Int)) (by omega) (by omega) W
        have hcd := narrow_markd (z := k0 + (k : Int)) (by omega) (by omega)
        have h1v := narrow_one
        have h1d := narrow_oned
        have hz := World.drewN_zero
        clear hc h1
        go_wp2
        go_round
        case rel => exact ⟨k + 1, by omega, by go_num, by go_num⟩
        case measure => simp [intOf]; omega
    · obtain rfl : k = len := by omega
      go_wp2
      go_ret
      exact ⟨rfl, rfl⟩
end Go.Proofs.YtcbfefamemidnaaDoor
