/-
  TenthsOf: the halvings and the doublings.
-/
import Derived.Test.YtokbpcfgeklliaaAng
namespace Go.Proofs.Ytokbpcfgeklliaa
open Go.RowKit
open Ieee
set_option linter.unusedVariables false

def K15 : Nat := 4609434218613702656
def K2 : Nat := 4611686018427387904
def K075 : Nat := 4604930618986332160
theorem quot_low {D : Nat} {s t : Bool} {m n : Nat} {i j : Int} (hD : 1 ≤ D) (hm : m ≠ 0) (hn : n ≠ 0) :
    ∃ m' e', (Datum.number s m i).quotient D (.number t n j) = some (.number (s ^^ t) m' e') ∧ vl 1 (m.log2 + i - n.log2 - j - 1) ≤ vl m' e' := by
  refine ⟨2 * ((m <<< (D + n.log2 - m.log2)) / n) + ((m <<< (D + n.log2 - m.log2)) % n != 0).toNat, i - j - ((D + n.log2 - m.log2 : Nat) : Int) - 1, by simp only [Datum.quotient, if_neg hn], ?_⟩
  obtain ⟨mo, hmo⟩ : ∃ mo, mo = D + n.log2 - m.log2 := ⟨_, rfl⟩
  rw [← hmo]
  obtain ⟨E, hE⟩ : ∃ E : Nat, E + n.log2 + 1 = m.log2 + mo := ⟨m.log2 + mo - n.log2 - 1, by omega⟩
  have h1 : n < 2 ^ (n.log2 + 1) := Nat.lt_log2_self
  have h2 : 2 ^ m.log2 ≤ m := Nat.log2_self_le hm
  have h3 : n * 2 ^ E ≤ m * 2 ^ mo := by
    have a : n * 2 ^ E ≤ 2 ^ (n.log2 + 1) * 2 ^ E := Nat.mul_le_mul_right _ (Nat.le_of_lt h1)
    have b : 2 ^ m.log2 * 2 ^ mo ≤ m * 2 ^ mo := Nat.mul_le_mul_right _ h2
    rw [← Nat.pow_add] at a b
    rw [show n.log2 + 1 + E = m.log2 + mo by omega] at a
    exact Nat.le_trans a b
  have h4 : 2 ^ E ≤ (m <<< mo) / n := by
    rw [Nat.shiftLeft_eq, Nat.le_div_iff_mul_le (Nat.pos_of_ne_zero hn), Nat.mul_comm]
    exact h3
  have h5 : 2 ^ (E + 1) ≤ 2 * ((m <<< mo) / n) + ((m <<< mo) % n != 0).toNat := by
    rw [Nat.pow_succ]
    omega
  have h6 := vl_le_same (e := i - j - (mo : Int) - 1).2 h5
  rw [vl_pow] at h6
  refine rle_trans (vl1_le.2 (by omega)) h6
theorem quo_word {x y : Nat} (hx : fin .f64 x = true) (hy : fin .f64 y = true) {m' : Nat} {e' : Int} (hq : (Datum.number (sg .f64 x) (mg FloatKind.f64.format (rg .f64 x)) (pl FloatKind.f64.format (rg .f64 x))).quotient (FloatKind.f64.format.fractionBits + 2) (.number (sg .f64 y) (mg FloatKind.f64.format (rg .f64 y)) (pl FloatKind.f64.format (rg .f64 y))) = some (.number (sg .f64 x ^^ sg .f64 y) m' e')) :
    floatBits .quo .f64 x y = some (FloatKind.f64.format.word (sg .f64 x ^^ sg .f64 y) (nr FloatKind.f64.format m' e')) := by
  simp only [floatBits, Format.div, read_fin hx, read_fin hy, hq, Option.map]
  exact congrArg some (nearest_eq _ _ _ _)
theorem K2_facts : fin .f64 K2 = true ∧ sg .f64 K2 = false ∧ mg FloatKind.f64.format (rg .f64 K2) = 4503599627370496 ∧ pl FloatKind.f64.format (rg .f64 K2) = -51 ∧ RP 1 = rg .f64 K2 := by decide +kernel
theorem pos_val {f : Nat} (hs : sg .f64 f = false) : wv .f64 f = rv FloatKind.f64.format (rg .f64 f) := by unfold wv; rw [hs]; rfl
theorem K15_val : fin .f64 K15 = true ∧ wv .f64 K15 = rv FloatKind.f64.format K15 ∧ K15 ≤ FloatKind.f64.format.infRung := ⟨by decide +kernel, wv_pos_word (by decide +kernel), by decide +kernel⟩
theorem K075_val : fin .f64 K075 = true ∧ wv .f64 K075 = rv FloatKind.f64.format K075 ∧ K075 ≤ FloatKind.f64.format.infRung := ⟨by decide +kernel, wv_pos_word (by decide +kernel), by decide +kernel⟩
theorem geq_rung {f c : Nat} (hf : fin .f64 f = true) (hs : sg .f64 f = false) (hc : fin .f64 c = true) (hl : c < FloatKind.f64.format.infRung) (hv : wv .f64 c = rv FloatKind.f64.format c) : geqC f c = decide (c ≤ rg .f64 f) := by
  have hr : rg .f64 f < FloatKind.f64.format.infRung := of_decide_eq_true hf
  rw [geq_fin hf hc, hv, pos_val hs]
  refine decide_eq_decide.2 ⟨fun h => ?_, fun h => rv_le _ (Nat.le_of_lt hr) h⟩
  by_cases h2 : c ≤ rg .f64 f
  · exact h2
  · have := rv_lt FloatKind.f64.format (r := rg .f64 f) (s := c) (Nat.le_of_lt hl) (by omega)
    grind
theorem lss_rung {f c : Nat} (hf : fin .f64 f = true) (hs : sg .f64 f = false) (hc : fin .f64 c = true) (hl : c < FloatKind.f64.format.infRung) (hv : wv .f64 c = rv FloatKind.f64.format c) : lssC f c = decide (rg .f64 f < c) := by
  have hr : rg .f64 f < FloatKind.f64.format.infRung := of_decide_eq_true hf
  unfold lssC
  rw [lt_fin hf hc, hv, pos_val hs]
  exact decide_eq_decide.2 (rv_lt_iff _ (Nat.le_of_lt hr) (Nat.le_of_lt hl))
theorem half_ok {f : Nat} {i : Int} (hs : sg .f64 f = false) (hb : Bd f i) (hi : i ≤ 1023) (hi0 : 0 ≤ i) (hk : K15 ≤ rg .f64 f) :
    sg .f64 (fo .quo .f64 f K2) = false ∧ Bd (fo .quo .f64 f K2) (i - 1) ∧ RP (-2) ≤ rg .f64 (fo .quo .f64 f K2) := by
  obtain ⟨h2f, h2s, h2m, h2p, h2r⟩ := K2_facts
  have hf := hb.fin hi
  have hm : mg FloatKind.f64.format (rg .f64 f) ≠ 0 := by
    unfold mg
    have := binade_pos FloatKind.f64.format
    have : 0 < K15 := by decide
    split <;> omega
  obtain ⟨m', e', hq, hle⟩ := quot_low (D := FloatKind.f64.format.fractionBits + 2) (s := sg .f64 f) (t := sg .f64 K2) (m := mg FloatKind.f64.format (rg .f64 f)) (n := mg FloatKind.f64.format (rg .f64 K2)) (i := pl FloatKind.f64.format (rg .f64 f)) (j := pl FloatKind.f64.format (rg .f64 K2)) (by omega) hm (by rw [h2m]; decide)
  have hw := quo_word hf h2f hq
  have hx : (sg .f64 f ^^ sg .f64 K2) = false := by rw [hs, h2s]; rfl
  rw [hx] at hw
  have hlog : 0 ≤ ((mg FloatKind.f64.format (rg .f64 f)).log2 : Int) + pl FloatKind.f64.format (rg .f64 f) := by
    have h1 : rv FloatKind.f64.format (RP 0) ≤ rv FloatKind.f64.format (rg .f64 f) := rv_le _ (Nat.le_of_lt (of_decide_eq_true hf)) (Nat.le_trans (by decide +kernel) hk)
    rw [rv_RP (by omega) (by omega)] at h1
    have h2 := lt_log (mg FloatKind.f64.format (rg .f64 f)) (pl FloatKind.f64.format (rg .f64 f))
    have := vl1_lt.1 (rlt_of_le_of_lt h1 h2)
    omega
  have h52 : (4503599627370496 : Nat).log2 = 52 := by decide +kernel
  rw [h2m, h2p, h52] at hle
  have hl2 : vl 1 (-2) ≤ vl m' e' := rle_trans (vl1_le.2 (by omega)) hle
  have hn := nr_ge_p2 (by omega) (by omega) hl2
  refine ⟨?_, Bd_quo (i := i) (j := 1) hb h2f (by rw [h2r]; exact Nat.le_refl _) (by omega) (by omega) (by omega) (by omega) (by omega) (by omega), ?_⟩
  · rw [fo_some hw]
    exact sg_word .f64 _ (nr_inf _ _ _)
  · rw [fo_some hw, rg_word .f64 _ (nr_inf _ _ _)]
    exact hn
theorem dbl_ok {f : Nat} {j : Int} (hs : sg .f64 f = false) (hf : fin .f64 f = true) (hj : RP j ≤ rg .f64 f) (h0 : -1022 ≤ j) (h1 : j ≤ 1022) (hk : rg .f64 f < K075) :
    sg .f64 (fo .mul .f64 f K2) = false ∧ Bd (fo .mul .f64 f K2) 1 ∧ RP (j + 1) ≤ rg .f64 (fo .mul .f64 f K2) := by
  obtain ⟨h2f, h2s, h2m, h2p, h2r⟩ := K2_facts
  have hb : Bd f 0 := Nat.le_trans (Nat.le_of_lt hk) (by decide +kernel)
  obtain ⟨m, e, hw, _, hv⟩ := mul_spec (k := .f64) hf h2f
  have hx : (sg .f64 f ^^ sg .f64 K2) = false := by rw [hs, h2s]; rfl
  rw [hx] at hw
  have hl : vl 1 (j + 1) ≤ vl m e := by
    rw [hv, ← h2r, rv_RP (by omega) (by omega), vl1_mul]
    refine Rat.mul_le_mul_of_nonneg_right ?_ (Rat.le_of_lt (vl1_pos _))
    rw [← rv_RP (by omega) (by omega)]
    exact rv_le _ (Nat.le_of_lt (of_decide_eq_true hf)) hj
  have hn := nr_ge_p2 (by omega) (by omega) hl
  refine ⟨?_, (Bd_mul (i := 0) (j := 1) hb (by unfold Bd; rw [← h2r]; exact Nat.le_refl _) (by omega) (by omega) (by omega) (by omega) (by omega) (by omega)).mono (by omega), ?_⟩
  · rw [fo_some hw]
    exact sg_word .f64 _ (nr_inf _ _ _)
  · rw [fo_some hw, rg_word .f64 _ (nr_inf _ _ _)]
    exact hn
/-! ### The two loops -/
def dn : Nat → Nat → Int → Nat × Int
  | 0, f, e => (f, e)
  | n + 1, f, e => if geqC f K15 then dn n (fo .quo .f64 f K2) (e + 1) else (f, e)
def up : Nat → Nat → Int → Nat × Int
  | 0, f, e => (f, e)
  | n + 1, f, e => if lssC f K075 then up n (fo .mul .f64 f K2) (e - 1) else (f, e)
def D1 (j : Nat) (f : Nat) : Prop := sg .f64 f = false ∧ Bd f (128 - (j : Int)) ∧ RP (-149) ≤ rg .f64 f
def D2 (j : Nat) (f : Nat) : Prop := sg .f64 f = false ∧ Bd f 1 ∧ RP (-149 + (j : Int)) ≤ rg .f64 f
theorem D1.geq {j f : Nat} (h : D1 j f) : geqC f K15 = decide (K15 ≤ rg .f64 f) := geq_rung (h.2.1.fin (by omega)) h.1 K15_val.1 (by decide +kernel) K15_val.2.1
theorem D2.lss {j f : Nat} (h : D2 j f) : lssC f K075 = decide (rg .f64 f < K075) := lss_rung (h.2.1.fin (by omega)) h.1 K075_val.1 (by decide +kernel) K075_val.2.1
theorem D1.lt {j f : Nat} (h : D1 j f) (hj : j ≤ 128) (hg : geqC f K15 = true) : j < 128 := by
  rw [h.geq] at hg
  have h1 := of_decide_eq_true hg
  by_cases hh : j = 128
  · subst hh
    have h2 : rg .f64 f ≤ RP 0 := h.2.1
    have h3 : RP 0 < K15 := by decide +kernel
    omega
  · omega
theorem D1.step {j f : Nat} (h : D1 j f) (hj : j < 128) (hg : geqC f K15 = true) : D1 (j + 1) (fo .quo .f64 f K2) := by
  rw [h.geq] at hg
  obtain ⟨a, b, c⟩ := half_ok h.1 h.2.1 (by omega) (by omega) (of_decide_eq_true hg)
  exact ⟨a, b.mono (by omega), Nat.le_trans (RP_le (by omega)) c⟩
theorem D1.stop {j f : Nat} (h : D1 j f) (hg : geqC f K15 = false) : D2 0 f := by
  rw [h.geq] at hg
  have h1 := of_decide_eq_false hg
  refine ⟨h.1, ?_, h.2.2⟩
  have h2 : K15 ≤ RP 1 := by decide +kernel
  show rg .f64 f ≤ RP 1
  omega
theorem D2.lt {j f : Nat} (h : D2 j f) (hg : lssC f K075 = true) : j < 149 := by
  rw [h.lss] at hg
  have h1 := of_decide_eq_true hg
  by_cases hh : j < 149
  · exact hh
  · have h2 : RP 0 ≤ RP (-149 + (j : Int)) := RP_le (by omega)
    have h3 : K075 ≤ RP 0 := by decide +kernel
    have := h.2.2
    omega
theorem D2.step {j f : Nat} (h : D2 j f) (hj : j < 149) (hg : lssC f K075 = true) : D2 (j + 1) (fo .mul .f64 f K2) := by
  rw [h.lss] at hg
  obtain ⟨a, b, c⟩ := dbl_ok h.1 (h.2.1.fin (by omega)) h.2.2 (by omega) (by omega) (of_decide_eq_true hg)
  exact ⟨a, b, by rw [show -149 + ((j + 1 : Nat) : Int) = -149 + (j : Int) + 1 by omega]; exact c⟩
theorem dn_no {n f : Nat} {e : Int} (h : geqC f K15 = false) : dn n f e = (f, e) := by
  cases n with
  | zero => rfl
  | succ n => unfold dn; rw [h]; rfl
theorem up_no {n f : Nat} {e : Int} (h : lssC f K075 = false) : up n f e = (f, e) := by
  cases n with
  | zero => rfl
  | succ n => unfold up; rw [h]; rfl
theorem dn_yes {j f : Nat} {e : Int} (hj : j < 128) (h : geqC f K15 = true) : dn (128 - j) f e = dn (128 - (j + 1)) (fo .quo .f64 f K2) (e + 1) := by
  obtain ⟨n, hn⟩ : ∃ n, 128 - j = n + 1 := ⟨128 - j - 1, by omega⟩
  rw [hn, show 128 - (j + 1) = n by omega]
  conv => lhs; unfold dn
  rw [h]
  rfl
theorem up_yes {j f : Nat} {e : Int} (hj : j < 149) (h : lssC f K075 = true) : up (149 - j) f e = up (149 - (j + 1)) (fo .mul .f64 f K2) (e - 1) := by
  obtain ⟨n, hn⟩ : ∃ n, 149 - j = n + 1 := ⟨149 - j - 1, by omega⟩
  rw [hn, show 149 - (j + 1) = n by omega]
  conv => lhs; unfold up
  rw [h]
  rfl
end Go.Proofs.Ytokbpcfgeklliaa
