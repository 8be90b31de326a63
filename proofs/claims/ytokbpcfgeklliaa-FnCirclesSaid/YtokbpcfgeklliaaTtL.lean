/-
  The tenths of decibels of a product of two eighths: nearly those of both.
-/
import Derived.Test.YtokbpcfgeklliaaTtA
import Derived.Test.YtokbpcfgeklliaaTtB
import Derived.Test.YtokbpcfgeklliaaTtC
import Derived.Test.YtokbpcfgeklliaaTtD
namespace Go.Proofs.Ytokbpcfgeklliaa
open Ieee
set_option linter.unusedVariables false

theorem rows_all {i : Nat} (h1 : 1 ≤ i) (h2 : i ≤ 200) : rowB i = true := by
  by_cases a : i ≤ 27
  · exact all_A h1 a
  by_cases b : i ≤ 58
  · exact all_B (by omega) b
  by_cases c : i ≤ 99
  · exact all_C (by omega) c
  · exact all_D (by omega) h2
/-- The table's entry of i/8. -/
def tA (i : Nat) : Nat := tt.getD (i - 1) 0
theorem head_all {i : Nat} (h1 : 1 ≤ i) (h2 : i ≤ 200) : qten (8 * i) = tA i ∧ 1 ≤ tA i ∧ tA i ≤ 5000 := by
  have h := head_ok ⟨i - 1, by omega⟩
  rw [show (⟨i - 1, by omega⟩ : Fin 200).val + 1 = i by show i - 1 + 1 = i; omega] at h
  unfold headB at h
  simp only [force_eq] at h
  change cond (Nat.beq (qten (8 * i)) (tA i)) (cond (Nat.ble 1 (tA i)) (Nat.ble (tA i) 5000) false) false = true at h
  rw [beq_is, ble_is, ble_is] at h
  by_cases c1 : qten (8 * i) = tA i
  · by_cases c2 : 1 ≤ tA i
    · rw [decide_eq_true c1, decide_eq_true c2] at h
      exact ⟨c1, c2, of_decide_eq_true h⟩
    · rw [decide_eq_true c1, decide_eq_false c2] at h
      cases h
  · rw [decide_eq_false c1] at h
    cases h
theorem tt_at {k : Nat} (h : k < 200) : tt[k]? = some (tt.getD k 0) := by
  have hl : k < tt.length := by rw [tt_len]; exact h
  rw [List.getD_eq_getElem?_getD, List.getElem?_eq_getElem hl]
  rfl
theorem prod_le {i j : Nat} (h1 : 1 ≤ i) (hij : i ≤ j) (h2 : j ≤ 200) : 1 ≤ qten (i * j) ∧ tA i + tA j ≤ qten (i * j) + 2001 ∧ qten (i * j) + 1999 ≤ tA i + tA j := by
  have h := rows_all h1 (Nat.le_trans hij h2)
  unfold rowB at h
  simp only [force_eq] at h
  change rowR i (tA i) (tt.drop (i - 1)) i = true at h
  have hg : (tt.drop (i - 1))[j - i]? = some (tA j) := by
    rw [List.getElem?_drop, show i - 1 + (j - i) = j - 1 by omega]
    exact tt_at (by omega)
  have hk := rowR_get i (tA i) _ i (j - i) (tA j) hg h
  rw [show i + (j - i) = j by omega] at hk
  unfold okE okT at hk
  simp only [force_eq] at hk
  change cond (Nat.ble 1 (qten (i * j))) (cond (Nat.ble (tA i + tA j) (qten (i * j) + 2001)) (Nat.ble (qten (i * j) + 1999) (tA i + tA j)) false) false = true at hk
  rw [ble_is, ble_is, ble_is] at hk
  by_cases c1 : 1 ≤ qten (i * j)
  · by_cases c2 : tA i + tA j ≤ qten (i * j) + 2001
    · rw [decide_eq_true c1, decide_eq_true c2] at hk
      exact ⟨c1, c2, of_decide_eq_true hk⟩
    · rw [decide_eq_true c1, decide_eq_false c2] at hk
      cases hk
  · rw [decide_eq_false c1] at hk
    cases hk
theorem prod_any {i j : Nat} (h1 : 1 ≤ i) (h2 : i ≤ 200) (h3 : 1 ≤ j) (h4 : j ≤ 200) : 1 ≤ qten (i * j) ∧ tA i + tA j ≤ qten (i * j) + 2001 ∧ qten (i * j) + 1999 ≤ tA i + tA j := by
  by_cases h : i ≤ j
  · exact prod_le h1 h h4
  · have := prod_le h3 (show j ≤ i by omega) h2
    rw [Nat.mul_comm j i, Nat.add_comm (tA j) (tA i)] at this
    exact this
/-! ### n/64 in 32 bits -/
def X3 (n : Nat) : Nat := 1006632960 + n.log2 * 8388608 + n <<< (23 - n.log2)
theorem X3_val {n : Nat} (h0 : n ≠ 0) (h : n < 2 ^ 20) : rv FloatKind.f32.format (X3 n) = vl n (-6) ∧ X3 n < 1400000000 ∧ 0 < X3 n := by
  have hl : n.log2 < 20 := (Nat.log2_lt h0).2 h
  have h1 : 2 ^ n.log2 ≤ n := Nat.log2_self_le h0
  have h2 : n < 2 ^ (n.log2 + 1) := Nat.lt_log2_self
  have h3 : 8388608 ≤ n <<< (23 - n.log2) := by
    rw [Nat.shiftLeft_eq]
    have := Nat.mul_le_mul_right (2 ^ (23 - n.log2)) h1
    rwa [← Nat.pow_add, show n.log2 + (23 - n.log2) = 23 by omega] at this
  have h4 : n <<< (23 - n.log2) < 16777216 := by
    rw [Nat.shiftLeft_eq]
    have := Nat.mul_lt_mul_of_pos_right h2 (show 0 < 2 ^ (23 - n.log2) from Nat.two_pow_pos _)
    rwa [← Nat.pow_add, show n.log2 + 1 + (23 - n.log2) = 24 by omega] at this
  have hv : rv FloatKind.f32.format (X3 n) = vl (n <<< (23 - n.log2)) ((n.log2 : Int) - 29) := by
    unfold X3
    generalize n <<< (23 - n.log2) = c at *
    refine vl_rung (k := .f32) ?_ ?_
    · unfold mg; rw [bin32, if_neg (by omega)]; omega
    · unfold pl; rw [bin32, lp32, if_neg (by omega)]; omega
  refine ⟨?_, ?_, ?_⟩
  · rw [hv, Nat.shiftLeft_eq, show ((n.log2 : Int) - 29) = -6 - ((23 - n.log2 : Nat) : Int) by omega, vl_shift]
  · unfold X3
    generalize n <<< (23 - n.log2) = c at *
    omega
  · unfold X3
    omega
theorem X3_facts {n : Nat} (h0 : n ≠ 0) (h : n < 2 ^ 20) : fin .f32 (X3 n) = true ∧ sg .f32 (X3 n) = false ∧ rg .f32 (X3 n) = X3 n ∧ wr (X3 n) = R6 n := by
  obtain ⟨hv, hi, hp⟩ := X3_val h0 h
  have hlt : X3 n < FloatKind.f32.format.infRung := by rw [inf32]; omega
  have hr : rg .f32 (X3 n) = X3 n := rg_word .f32 false (r := X3 n) (Nat.le_of_lt hlt)
  have h40 : n < 2 ^ 40 := Nat.lt_trans h (by decide)
  obtain ⟨hR, h3, h4, hl⟩ := R6_val h0 h40
  refine ⟨(fin_lt (k := .f32) hlt).1, sg_word .f32 false (r := X3 n) (Nat.le_of_lt hlt), hr, ?_⟩
  unfold wr
  rw [hr]
  refine nr_self _ ?_ ?_
  · rw [inf64]
    unfold R6
    generalize n <<< (52 - n.log2) = c at *
    omega
  · show rv FloatKind.f32.format (X3 n) = _
    rw [hv, hR]
theorem tenR_X3 {n : Nat} (h0 : n ≠ 0) (h : n < 2 ^ 20) (hq : qten n ≠ 0) : tenB (X3 n) = true ∧ tenR (X3 n) = (qten n : Int) - 2000 := by
  obtain ⟨hf, hs, hr, hw⟩ := X3_facts h0 h
  have hp := (X3_val h0 h).2.2
  have hb : tenB (X3 n) = true := by
    unfold tenB
    rw [lt_zero hf, eq_zero hf, hf, hs, decide_eq_false (show ¬ rg .f32 (X3 n) = 0 by rw [hr]; omega)]
    rfl
  refine ⟨hb, ?_⟩
  unfold tenR
  rw [hb, if_pos rfl, hs, hw]
  exact qten_is h0 (Nat.lt_trans h (by decide)) hq
theorem X3_mul {i j : Nat} (h1 : 1 ≤ i) (h2 : i ≤ 200) (h3 : 1 ≤ j) (h4 : j ≤ 200) : floatBits .mul .f32 (X3 (8 * i)) (X3 (8 * j)) = some (X3 (i * j)) := by
  have hij : i * j ≤ 200 * 200 := Nat.mul_le_mul h2 h4
  have hij0 : i * j ≠ 0 := Nat.mul_ne_zero (by omega) (by omega)
  obtain ⟨f1, s1, r1, _⟩ := X3_facts (n := 8 * i) (by omega) (by omega)
  obtain ⟨f2, s2, r2, _⟩ := X3_facts (n := 8 * j) (by omega) (by omega)
  have v1 := (X3_val (n := 8 * i) (by omega) (by omega)).1
  have v2 := (X3_val (n := 8 * j) (by omega) (by omega)).1
  obtain ⟨v3, i3, _⟩ := X3_val (n := i * j) hij0 (by omega)
  obtain ⟨m, e, hw, _, hv⟩ := mul_spec (k := .f32) f1 f2
  rw [hw, s1, s2]
  rw [r1, r2, v1, v2, ← vl_mul] at hv
  have he : vl (8 * i * (8 * j)) (-6 + -6) = vl (i * j) (-6) := by
    rw [show 8 * i * (8 * j) = i * j * 2 ^ 6 by rw [Nat.mul_mul_mul_comm, Nat.mul_comm], show ((-6 : Int) + -6) = -6 - ((6 : Nat) : Int) by decide, vl_shift]
  have hn : nr FloatKind.f32.format m e = X3 (i * j) := nr_self _ (by rw [inf32]; omega) (by rw [hv, he, v3])
  rw [hn]
  rfl
set_option maxRecDepth 100000 in
theorem X3_eight : ∀ i : Fin 200, decide (floatBits .quo .f32 (floatOfInt .f32 ((i.val + 1 : Nat) : Int)) 1090519040 = some (X3 (8 * (i.val + 1)))) = true := by decide +kernel
theorem X3_quo {i : Nat} (h1 : 1 ≤ i) (h2 : i ≤ 200) : floatBits .quo .f32 (floatOfInt .f32 (i : Int)) 1090519040 = some (X3 (8 * i)) := by
  have h := of_decide_eq_true (X3_eight ⟨i - 1, by omega⟩)
  rwa [show (⟨i - 1, by omega⟩ : Fin 200).val + 1 = i by show i - 1 + 1 = i; omega] at h
/-- What the law asks of the tenths. -/
theorem tenths_law {i j : Nat} (h1 : 1 ≤ i) (h2 : i ≤ 200) (h3 : 1 ≤ j) (h4 : j ≤ 200) :
    ∃ a b c : Int, tenB (X3 (8 * i)) = true ∧ tenR (X3 (8 * i)) = a ∧ tenB (X3 (8 * j)) = true ∧ tenR (X3 (8 * j)) = b ∧ tenB (X3 (i * j)) = true ∧ tenR (X3 (i * j)) = c ∧
      -5000 ≤ a ∧ a ≤ 5000 ∧ -5000 ≤ b ∧ b ≤ 5000 ∧ -20000 ≤ c ∧ c ≤ 20000 ∧ a + b - c ≤ 1 ∧ c - a - b ≤ 1 := by
  have hij : i * j ≤ 200 * 200 := Nat.mul_le_mul h2 h4
  have hij0 : i * j ≠ 0 := Nat.mul_ne_zero (by omega) (by omega)
  have l1 : 8 * i ≠ 0 ∧ 8 * i < 2 ^ 20 := by omega
  have l2 : 8 * j ≠ 0 ∧ 8 * j < 2 ^ 20 := by omega
  have l3 : i * j < 2 ^ 20 := by omega
  have nz : ∀ {x y : Nat}, x = y → 1 ≤ y → x ≠ 0 := by intro x y h1 h2; omega
  have nz1 : ∀ {x : Nat}, 1 ≤ x → x ≠ 0 := by intro x h1; omega
  obtain ⟨ha, a1, a2⟩ := head_all h1 h2
  obtain ⟨hb, b1, b2⟩ := head_all h3 h4
  obtain ⟨c1, c2, c3⟩ := prod_any h1 h2 h3 h4
  obtain ⟨p1, p2⟩ := tenR_X3 (n := 8 * i) l1.1 l1.2 (nz ha a1)
  obtain ⟨q1, q2⟩ := tenR_X3 (n := 8 * j) l2.1 l2.2 (nz hb b1)
  obtain ⟨r1, r2⟩ := tenR_X3 (n := i * j) hij0 l3 (nz1 c1)
  rw [ha] at p2
  rw [hb] at q2
  refine ⟨_, _, _, p1, p2, q1, q2, r1, r2, ?_⟩
  clear p1 p2 q1 q2 r1 r2 ha hb nz nz1 l1 l2 l3 hij hij0
  generalize qten (i * j) = o at *
  generalize tA i = u at *
  generalize tA j = v at *
  omega
end Go.Proofs.Ytokbpcfgeklliaa
