/-
  The tenths of decibels of n/64, reckoned by the quick operations.
-/
import Derived.Test.YtokbpcfgeklliaaQk
namespace Go.Proofs.Ytokbpcfgeklliaa
open Ieee
set_option linter.unusedVariables false

/-! ### The halvings and doublings of a normal number -/
theorem W6f (r : Nat) : W6 false r = r := rfl
theorem pos_facts {f : Nat} (h : f < FloatKind.f64.format.infRung) : fin .f64 f = true ∧ sg .f64 f = false ∧ rg .f64 f = f := by
  have h1 := fin_lt (k := .f64) h
  refine ⟨h1.1, ?_, ?_⟩
  · exact sg_word .f64 false (r := f) (Nat.le_of_lt h)
  · exact rg_word .f64 false (r := f) (Nat.le_of_lt h)
theorem inf_num : FloatKind.f64.format.infRung = 9218868437227405312 := inf64
theorem geq15 {f : Nat} (h : f < FloatKind.f64.format.infRung) : geqC f K15 = decide (K15 ≤ f) := by
  obtain ⟨a, b, c⟩ := pos_facts h
  rw [geq_rung a b K15_val.1 (by rw [inf64]; decide) K15_val.2.1, c]
theorem lss075 {f : Nat} (h : f < FloatKind.f64.format.infRung) : lssC f K075 = decide (f < K075) := by
  obtain ⟨a, b, c⟩ := pos_facts h
  rw [lss_rung a b K075_val.1 (by rw [inf64]; decide) K075_val.2.1, c]
theorem rv_up {f : Nat} (h : 4503599627370496 ≤ f) : rv FloatKind.f64.format (f + 4503599627370496) = vl (mg FloatKind.f64.format f) (pl FloatKind.f64.format f + 1) := by
  refine vl_rung (k := .f64) ?_ ?_
  · unfold mg; rw [bin64, if_neg (by omega), if_neg (by omega)]; omega
  · unfold pl; rw [bin64, lp64, if_neg (by omega), if_neg (by omega)]; omega
theorem dbl_eq {f : Nat} (h : 4503599627370496 ≤ f) (hi : f < 9000000000000000000) : fo .mul .f64 f K2 = f + 4503599627370496 := by
  have hx : f < FloatKind.f64.format.infRung := by rw [inf64]; omega
  obtain ⟨a, b, c⟩ := pos_facts hx
  obtain ⟨h2f, h2s, h2m, h2p, h2r⟩ := K2_facts
  obtain ⟨m, e, hw, _, hv⟩ := mul_spec (k := .f64) a h2f
  rw [fo_some hw, b, h2s]
  have hn : nr FloatKind.f64.format m e = f + 4503599627370496 := by
    refine nr_self _ (by rw [inf64]; omega) ?_
    rw [hv, c, rv_up h, ← h2r, rv_RP (by omega) (by omega)]
    unfold rv
    rw [← vl_mul, Nat.mul_one]
  rw [hn]
  exact W6f _
theorem qquo_nice (x y : Nat) : qquo x y = nr FloatKind.f64.format (2 * ((qm x <<< (54 + (qm y).log2 - (qm x).log2)) / qm y) + cond (Nat.beq ((qm x <<< (54 + (qm y).log2 - (qm x).log2)) % qm y) 0) 0 1) (((qe x + 1074 : Nat) : Int) - ((qe y + (54 + (qm y).log2 - (qm x).log2) + 1 : Nat) : Int) - 1074) := by
  unfold qquo qquo1 qquo2
  simp only [force_eq, qlg_is]
  rw [← qr_is]
  rfl
theorem hlf_eq {f : Nat} (h : 9007199254740992 ≤ f) (hi : f < 9000000000000000000) : fo .quo .f64 f K2 = f - 4503599627370496 := by
  have hx : f < FloatKind.f64.format.infRung := by rw [inf64]; omega
  have hy : K2 < FloatKind.f64.format.infRung := by rw [inf64]; decide
  have q := qquo_is (s := false) (t := false) hx hy (by decide)
  rw [W6f, W6f] at q
  rw [q]
  have hq : qquo f K2 = f - 4503599627370496 := by
    rw [qquo_nice]
    have e1 : qm K2 = 4503599627370496 := by decide
    have e2 : qe K2 = 1023 := by decide
    have hm : qm f = 4503599627370496 + f % 4503599627370496 := by
      rw [← qm_is]; unfold mg; rw [bin64, if_neg (by omega)]
    have hE : qe f = f / 4503599627370496 - 1 := rfl
    rw [e1, e2]
    have hl : (qm f).log2 = 52 := by
      refine (Nat.log2_eq_iff (by omega)).2 ⟨by omega, by omega⟩
    have hl2 : Nat.log2 4503599627370496 = 52 := by decide +kernel
    rw [hl, hl2]
    rw [show 54 + 52 - 52 = 54 from rfl]
    have hd : (qm f) <<< 54 = 4503599627370496 * (4 * qm f) := by
      rw [Nat.shiftLeft_eq]; omega
    have hz : cond (Nat.beq 0 0) 0 1 = 0 := rfl
    rw [hd, Nat.mul_div_cancel_left _ (by omega), Nat.mul_mod_right, hz, Nat.add_zero]
    refine nr_self _ (by rw [inf64]; omega) ?_
    have h1 := rv_up (f := f - 4503599627370496) (by omega)
    have hr : rv FloatKind.f64.format (f - 4503599627370496) = vl (qm f) ((qe f : Int) - 1075) := by
      refine vl_rung (k := .f64) ?_ ?_
      · unfold mg; rw [bin64, if_neg (by omega), hm]; omega
      · unfold pl; rw [bin64, lp64, if_neg (by omega), hE]; omega
    rw [hr, show 2 * (4 * qm f) = qm f * 2 ^ 3 by omega, show ((qe f + 1074 : Nat) : Int) - ((1023 + 54 + 1 : Nat) : Int) - 1074 = ((qe f : Int) - 1075) - ((3 : Nat) : Int) by omega, vl_shift]
  rw [hq]
  exact W6f _
theorem dn_run {x : Nat} (h0 : K075 ≤ x) (h1 : x < K15) : ∀ (n k : Nat) (e : Int), k ≤ n → k ≤ 100 → dn n (x + k * 4503599627370496) e = (x, e + k)
  | 0, k, e, hk, _ => by
    obtain rfl : k = 0 := by omega
    simp [dn]
  | n + 1, 0, e, hk, _ => by
    unfold K15 at h1
    rw [dn_no (by rw [geq15 (by rw [inf64]; omega)]; unfold K15; exact decide_eq_false (by omega))]
    simp
  | n + 1, k + 1, e, hk, hk2 => by
    have ih := dn_run h0 h1 n k (e + 1) (by omega) (by omega)
    unfold K075 at h0
    unfold K15 at h1
    have hg : geqC (x + (k + 1) * 4503599627370496) K15 = true := by
      rw [geq15 (by rw [inf64]; omega)]; unfold K15; exact decide_eq_true (by omega)
    unfold dn
    rw [hg, if_pos rfl, hlf_eq (by omega) (by omega), show x + (k + 1) * 4503599627370496 - 4503599627370496 = x + k * 4503599627370496 by omega, ih]
    congr 1
    omega
theorem up_run {x : Nat} (h0 : K075 ≤ x) (h1 : x < K15) : ∀ (n k : Nat) (e : Int), k ≤ n → k ≤ 100 → up n (x - k * 4503599627370496) e = (x, e - k)
  | 0, k, e, hk, _ => by
    obtain rfl : k = 0 := by omega
    simp [up]
  | n + 1, 0, e, hk, _ => by
    unfold K075 at h0
    unfold K15 at h1
    rw [up_no (by rw [lss075 (by rw [inf64]; omega)]; unfold K075; exact decide_eq_false (by omega))]
    simp
  | n + 1, k + 1, e, hk, hk2 => by
    have ih := up_run h0 h1 n k (e - 1) (by omega) (by omega)
    unfold K075 at h0
    unfold K15 at h1
    have hg : lssC (x - (k + 1) * 4503599627370496) K075 = true := by
      rw [lss075 (by rw [inf64]; omega)]; unfold K075; exact decide_eq_true (by omega)
    unfold up
    rw [hg, if_pos rfl, dbl_eq (by omega) (by omega), show x - (k + 1) * 4503599627370496 + 4503599627370496 = x - k * 4503599627370496 by omega, ih]
    congr 1
    omega
theorem tenP_up {x k : Nat} (h0 : K075 ≤ x) (h1 : x < K15) (hk : k ≤ 100) : tenP (x + k * 4503599627370496) = (x, (k : Int)) := by
  unfold tenP
  rw [dn_run h0 h1 128 k 0 (by omega) hk]
  have := up_run h0 h1 149 0 ((k : Int)) (by omega) (by omega)
  rw [Nat.zero_mul, Nat.sub_zero] at this
  show up 149 x (0 + (k : Int)) = _
  rw [Int.zero_add, this]
  simp
theorem tenP_dn {x k : Nat} (h0 : K075 ≤ x) (h1 : x < K15) (hk : k ≤ 100) : tenP (x - k * 4503599627370496) = (x, -(k : Int)) := by
  have hu := up_run h0 h1 149 k 0 (by omega) hk
  unfold tenP
  unfold K15 at h1
  rw [dn_no (by rw [geq15 (by rw [inf64]; omega)]; unfold K15; exact decide_eq_false (by omega))]
  show up 149 (x - k * 4503599627370496) 0 = _
  rw [hu]
  simp
end Go.Proofs.Ytokbpcfgeklliaa
