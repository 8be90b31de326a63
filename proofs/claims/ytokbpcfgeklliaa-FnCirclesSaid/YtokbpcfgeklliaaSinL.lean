/-
  SineTurns: both sides by cases; the law.
-/
import Derived.Test.YtokbpcfgeklliaaSinS
namespace Go.Proofs.Ytokbpcfgeklliaa
open Go.RowKit
set_option linter.unusedVariables false

theorem geq_fin {x y : Nat} (hx : fin .f64 x = true) (hy : fin .f64 y = true) : geqC x y = decide (wv .f64 y ≤ wv .f64 x) := by
  unfold geqC
  rw [gt_fin hx hy, eq_fin hx hy]
  by_cases h1 : wv .f64 y < wv .f64 x
  · have h2 : wv .f64 y ≤ wv .f64 x := Rat.le_of_lt h1
    simp [h1, h2]
  · by_cases h3 : wv .f64 x = wv .f64 y
    · simp [h3]
    · have h4 : ¬ wv .f64 y ≤ wv .f64 x := by grind
      simp [h1, h3, h4]
theorem leq_fin {x y : Nat} (hx : fin .f64 x = true) (hy : fin .f64 y = true) : leqC x y = decide (wv .f64 x ≤ wv .f64 y) := by
  unfold leqC
  rw [lt_fin hx hy, eq_fin hx hy]
  by_cases h1 : wv .f64 x < wv .f64 y
  · have h2 : wv .f64 x ≤ wv .f64 y := Rat.le_of_lt h1
    simp [h1, h2]
  · by_cases h3 : wv .f64 x = wv .f64 y
    · simp [h3]
    · have h4 : ¬ wv .f64 x ≤ wv .f64 y := by grind
      simp [h1, h3, h4]
theorem wv_K52 : wv .f64 K52 = vl 1 52 := by
  rw [wv_pos_word (by decide +kernel), show K52 = RP 52 by decide +kernel, rv_RP (by omega) (by omega)]
theorem wv_N52 : wv .f64 N52 = - vl 1 52 := by
  have h1 : sg .f64 N52 = true := by decide +kernel
  have h2 : rg .f64 N52 = RP 52 := by decide +kernel
  unfold wv
  rw [h1, h2, rv_RP (by omega) (by omega)]
  rfl
theorem K52_fin : fin .f64 K52 = true ∧ fin .f64 N52 = true := ⟨by decide +kernel, by decide +kernel⟩
theorem rung_52 {y : Nat} (h : fin .f64 y = true) : (vl 1 52 ≤ rv FloatKind.f64.format (rg .f64 y)) ↔ K52 ≤ rg .f64 y := by
  rw [← rv_RP (j := 52) (by omega) (by omega), show RP 52 = K52 by decide +kernel]
  have hr := Nat.le_of_lt (of_decide_eq_true h)
  constructor
  · intro hh
    by_cases h2 : K52 ≤ rg .f64 y
    · exact h2
    · have := rv_lt FloatKind.f64.format (r := rg .f64 y) (s := K52) (by decide +kernel) (by omega)
      grind
  · exact rv_le _ hr
theorem range_52 {y : Nat} (h : fin .f64 y = true) : (geqC y K52 || leqC y N52) = decide (K52 ≤ rg .f64 y) := by
  rw [geq_fin h K52_fin.1, leq_fin h K52_fin.2, wv_K52, wv_N52, Bool.eq_iff_iff]
  simp only [Bool.or_eq_true, decide_eq_true_eq]
  rw [← rung_52 h]
  have hp := vl1_pos 52
  have hq := rv_nonneg FloatKind.f64.format (rg .f64 y)
  unfold wv
  split <;> constructor <;> grind
theorem abs_52 {y : Nat} (h : fin .f64 y = true) : geqC (rg .f64 y) K52 = decide (K52 ≤ rg .f64 y) := by
  have hlt : rg .f64 y < FloatKind.f64.format.infRung := of_decide_eq_true h
  obtain ⟨h1, h2⟩ := fin_lt (k := .f64) hlt
  rw [geq_fin h1 K52_fin.1, wv_K52, wv_pos_word h2]
  exact decide_eq_decide.2 (rung_52 h)

set_option maxHeartbeats 1000000 in
theorem sineWide_nan (y : Nat) (w : World) (h : fin .f64 y = false) :
    Calls Try.prog 44 #[.float .f64 y] w fun e w' => e = .returned (.float .f64 9221120237041090561) ∧ ∃ n, w' = w.drewN n := by
  have s0 : ∀ u : World, (FloatKind.f64.format.order (fv .sub .f64 y y u) 0 != some .eq) = true := by
    intro u
    have := sub_self .f64 y u
    rw [h] at this
    simpa using this
  go_enter Try.func44, Try.ntmps44
  go_wp2_with (go_at_call 28; refine (NaN_any _).mono ?_; rintro e w' ⟨rfl, rfl⟩)
  go_ret
  exact ⟨rfl, _, rfl⟩
set_option maxHeartbeats 1000000 in
theorem sineWide_big (y : Nat) (w : World) (h : fin .f64 y = true) (hb : (geqC y K52 || leqC y N52) = true) :
    Calls Try.prog 44 #[.float .f64 y] w fun e w' => e = .returned (.float .f64 0) ∧ ∃ n, w' = w.drewN n := by
  have s0 := neq_self h
  cases hg : geqC y K52
  · have s1 : (FloatKind.f64.format.order y 4841369599423283200 == some .gt || FloatKind.f64.format.order y 4841369599423283200 == some .eq) = false := hg
    have s2 : (FloatKind.f64.format.order y 14064741636278059008 == some .lt || FloatKind.f64.format.order y 14064741636278059008 == some .eq) = true := by rw [hg, Bool.false_or] at hb; exact hb
    clear hg hb h
    go_enter Try.func44, Try.ntmps44
    go_wp2
    go_ret
    exact ⟨rfl, _, rfl⟩
  · have s1 : (FloatKind.f64.format.order y 4841369599423283200 == some .gt || FloatKind.f64.format.order y 4841369599423283200 == some .eq) = true := hg
    clear hg hb h
    go_enter Try.func44, Try.ntmps44
    go_wp2
    go_ret
    exact ⟨rfl, _, rfl⟩
theorem cn_zero32' : cn .f32 0 = 0 := by decide +kernel
theorem narrow_nan (W : World) : cn .f32 (cv .f64 .f32 9221120237041090561 W) = qn .f32 := by
  have hn : isN .f64 9221120237041090561 = true := by decide +kernel
  rw [cn_cv (by decide) W (.inl hn)]
  unfold co
  rw [widen_nan (by decide) (by rw [isN_cn]; exact hn)]
  rfl
theorem narrow_bd {b : Nat} {c : Nat} (W : World) (h : cn .f64 b = c) (hc : Bd c 127) : cn .f32 (cv .f64 .f32 b W) = co .f64 .f32 c := by
  have hb : Bd b 127 := by rw [← h] at hc; exact (Bd_cn (by omega)).1 hc
  rw [cn_cv (by decide) W (.inr (narrow_some hb)), h]
/-- What SineTurns gives, every NaN told as one. -/
def sinF (x : Nat) : Nat := if fin .f32 x then (if K52 ≤ wr x then 0 else co .f64 .f32 (sinC (fracC (FloatKind.f64.format.word (sg .f32 x) (wr x))))) else qn .f32
theorem widen_is {x : Nat} (h : fin .f32 x = true) : (∀ W : World, cv .f32 .f64 x W = FloatKind.f64.format.word (sg .f32 x) (wr x)) ∧ cd .f32 .f64 x = 0 ∧ fin .f64 (FloatKind.f64.format.word (sg .f32 x) (wr x)) = true ∧ rg .f64 (FloatKind.f64.format.word (sg .f32 x) (wr x)) = wr x := by
  have hw := widen_fin h
  have hl := wr_lt h
  have hr := rg_word .f64 (sg .f32 x) (r := wr x) (by rw [inf64]; omega)
  refine ⟨fun W => by unfold cv; rw [hw]; rfl, by unfold cd; rw [hw]; rfl, ?_, hr⟩
  unfold fin
  rw [hr, inf64]
  exact decide_eq_true (by omega)
set_option maxHeartbeats 1000000 in
theorem specSine_any (x : Nat) (w : World) :
    Calls Try.prog 8 #[.float .f32 x] w fun e w' => ∃ b n, e = .returned (.float .f32 b) ∧ cn .f32 b = sinF x ∧ w' = w.drewN n := by
  cases hf : fin .f32 x
  · have hF : Hid (sinF x = qn .f32) := by show sinF x = _; unfold sinF; rw [hf]; rfl
    go_enter Try.func8, Try.ntmps8
    go_wp2_with (first | (go_at_call 26; go_in) | (go_at_call 43; go_in) | (go_at_call 44; refine (sineWide_nan _ _ (by rw [fin_widen, hf])).mono ?_; rintro e w' ⟨rfl, n, rfl⟩))
    go_ret
    exact ⟨_, _, rfl, by rw [hF.out]; exact narrow_nan _, rfl⟩
  · obtain ⟨hcv, hcd, hfy, hry⟩ := widen_is hf
    have hz := World.drewN_zero
    have hrange := range_52 hfy
    have hsF : sinF x = if K52 ≤ wr x then 0 else co .f64 .f32 (sinC (fracC (FloatKind.f64.format.word (sg .f32 x) (wr x)))) := by unfold sinF; rw [hf]; rfl
    rw [hry] at hrange
    generalize FloatKind.f64.format.word (sg .f32 x) (wr x) = y at *
    by_cases hk : K52 ≤ wr x
    · have hF : Hid (sinF x = 0) := by show sinF x = 0; rw [hsF, if_pos hk]
      have hb : (geqC y K52 || leqC y N52) = true := by rw [hrange]; exact decide_eq_true hk
      have h0 : ∀ W : World, cn .f32 (cv .f64 .f32 0 W) = 0 := by intro W; rw [(narrow_bd (b := 0) (c := 0) W (by decide +kernel) (by unfold Bd; decide +kernel))]; decide +kernel
      have H0 := Lib.hid h0
      clear hk hsF hrange hf hry h0
      go_enter Try.func8, Try.ntmps8
      go_wp2_with (first | (go_at_call 26; go_in) | (go_at_call 43; go_in) | (go_at_call 44; refine (sineWide_big _ _ hfy hb).mono ?_; rintro e w' ⟨rfl, n, rfl⟩))
      go_ret
      exact ⟨_, _, rfl, by rw [hF.out, H0.out], rfl⟩
    · have hF : Hid (sinF x = co .f64 .f32 (sinC (fracC y))) := by show sinF x = _; rw [hsF, if_neg hk]
      have hb : (geqC y K52 || leqC y N52) = false := by rw [hrange]; exact decide_eq_false hk
      have hg : geqC y K52 = false := by cases h : geqC y K52 <;> simp_all
      have hl : leqC y N52 = false := by cases h : leqC y N52 <;> simp_all
      have hBd : Bd y 52 := by
        unfold Bd
        rw [hry, show RP 52 = K52 by decide +kernel]
        omega
      have hS := (sinC_bd (frac_Bd hBd)).mono (show (110 : Int) ≤ 127 by omega)
      clear hk hsF hrange hf hry hb
      go_enter Try.func8, Try.ntmps8
      go_wp2_with (first | (go_at_call 26; go_in) | (go_at_call 43; go_in) | (go_at_call 44; refine (sineWide_any _ _ hBd hg hl).mono ?_; rintro e w' ⟨b, n, rfl, hb, rfl⟩; have HB := Lib.hid hb; clear hb))
      go_ret
      exact ⟨_, _, rfl, by rw [hF.out]; exact narrow_bd _ HB.out hS, rfl⟩
set_option maxHeartbeats 1000000 in
theorem implSine_any (x : Nat) (w : World) (hw : (Lit.float .f32 x).wf = true) :
    Calls Try.prog 9 #[.float .f32 x] w fun e w' => ∃ b n, e = .returned (.float .f32 b) ∧ cn .f32 b = sinF x ∧ w' = w.drewN n := by
  cases hf : fin .f32 x
  · have hF : Hid (sinF x = qn .f32) := by show sinF x = _; unfold sinF; rw [hf]; rfl
    have hfw : ∀ W : World, fin .f64 (cv .f32 .f64 x W) = false := fun W => by rw [fin_widen, hf]
    clear hw
    go_enter Try.func9, Try.ntmps9
    go_wp2_with (first | (go_at_call 27; refine (isFinite_any _ _).mono ?_; rintro e w' ⟨rfl, n, rfl⟩) | (go_at_call 28; refine (NaN_any _).mono ?_; rintro e w' ⟨rfl, rfl⟩))
    go_ret
    exact ⟨_, _, rfl, by rw [hF.out]; exact narrow_nan _, rfl⟩
  · have hwy := fun W : World => cv_wf (k := .f64) W hw
    obtain ⟨hcv, hcd, hfy, hry⟩ := widen_is hf
    have hz := World.drewN_zero
    have habs := abs_52 hfy
    have hrange := range_52 hfy
    have hsF : sinF x = if K52 ≤ wr x then 0 else co .f64 .f32 (sinC (fracC (FloatKind.f64.format.word (sg .f32 x) (wr x)))) := by unfold sinF; rw [hf]; rfl
    have hwy' := hwy default
    rw [hcv] at hwy'
    clear hwy hw
    generalize FloatKind.f64.format.word (sg .f32 x) (wr x) = y at *
    by_cases hk : K52 ≤ wr x
    · have hF : Hid (sinF x = 0) := by show sinF x = 0; rw [hsF, if_pos hk]
      have hb : (FloatKind.f64.format.order (rg .f64 y) 4841369599423283200 == some .gt || FloatKind.f64.format.order (rg .f64 y) 4841369599423283200 == some .eq) = true := by
        have : geqC (rg .f64 y) K52 = true := by rw [habs, hry]; exact decide_eq_true hk
        exact this
      clear hk hsF hrange hf hry habs
      go_enter Try.func9, Try.ntmps9
      go_wp2_with (first | (go_at_call 27; refine (isFinite_any _ _).mono ?_; rintro e w' ⟨rfl, n, rfl⟩) | (go_at_call 29; refine (Abs_any _ _ hwy').mono ?_; rintro e w' ⟨rfl, rfl⟩))
      go_ret
      exact ⟨_, _, rfl, by rw [hF.out]; exact cn_zero32', rfl⟩
    · have hF : Hid (sinF x = co .f64 .f32 (sinC (fracC y))) := by show sinF x = _; rw [hsF, if_neg hk]
      have hb : (FloatKind.f64.format.order (rg .f64 y) 4841369599423283200 == some .gt || FloatKind.f64.format.order (rg .f64 y) 4841369599423283200 == some .eq) = false := by
        have : geqC (rg .f64 y) K52 = false := by rw [habs, hry]; exact decide_eq_false hk
        exact this
      have hBd : Bd y 52 := by
        unfold Bd
        rw [hry, show RP 52 = K52 by decide +kernel]
        omega
      have hS := (sinC_bd (frac_Bd hBd)).mono (show (110 : Int) ≤ 127 by omega)
      clear hk hsF hrange hf hry habs
      go_enter Try.func9, Try.ntmps9
      go_wp2_with (first | (go_at_call 27; refine (isFinite_any _ _).mono ?_; rintro e w' ⟨rfl, n, rfl⟩) | (go_at_call 29; refine (Abs_any _ _ hwy').mono ?_; rintro e w' ⟨rfl, rfl⟩) | (go_at_call 30; refine (sine_any _ _ hBd).mono ?_; rintro e w' ⟨b, n, rfl, hb2, rfl⟩; have HB := Lib.hid hb2; clear hb2))
      go_ret
      exact ⟨_, _, rfl, by rw [hF.out]; exact narrow_bd _ HB.out hS, rfl⟩
set_option maxHeartbeats 400000 in
theorem fnExactSineTurns_walk (x : Nat) (hx : (Lit.float .f32 x).wf = true) (w : World) :
    Calls Try.prog 3 #[.float .f32 x] w fun e w' => e = .returned (.bool true) ∧ Below w.heap.size w w' := by
  go_enter Try.func3, Try.ntmps3
  go_wp2_with fail
  refine (specSine_any _ _).mono ?_
  rintro e w1 ⟨b1, n1, rfl, h1, rfl⟩
  have H1 := Lib.hid h1
  clear h1
  go_wp2_with fail
  refine (implSine_any _ _ hx).mono ?_
  rintro e w1 ⟨b2, n2, rfl, h2, rfl⟩
  have H2 := Lib.hid h2
  clear h2
  go_wp2_with fail
  refine (sameFloat_any _ _ _ (by rw [cn_widen, cn_widen, H1.out, H2.out])).mono ?_
  rintro e w1 ⟨rfl, n3, rfl⟩
  go_wp2
  go_ret
  exact ⟨rfl, below_drewN (Below.refl _ _) _⟩
end Go.Proofs.Ytokbpcfgeklliaa
