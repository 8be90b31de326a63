/-
  The tenths of decibels of n/64, reckoned by the quick operations: the sum, the floor, the words of n/64.
-/
import Derived.Test.YtokbpcfgeklliaaTqB
import Derived.Test.YtokbpcfgeklliaaTenW
namespace Go.Proofs.Ytokbpcfgeklliaa
open Ieee
set_option linter.unusedVariables false

theorem foi_q (e : Int) : floatOfInt .f64 e = W6 (decide (e < 0)) (qrS e.natAbs 1074 0) := by
  have h1 : floatOfInt .f64 e = FloatKind.f64.format.word (e < 0) (nr FloatKind.f64.format e.natAbs 0) := nearest_eq _ _ _ _
  rw [h1, ← qrS_is]
  rfl
theorem qte_is {x a b : Nat} {g h : Bool} {e : Int} (hs : sg .f64 x = false) (hx : Bd x 1) (he : e.natAbs ≤ 256) (hL : lnT x = W6 g a) (ha : a ≤ FloatKind.f64.format.infRung)
    (hh : decide (e < 0) = h) (hb : qmul (qrS e.natAbs 1074 0) KL2 = b) : ∃ s r, r < FloatKind.f64.format.infRung ∧ (∀ k : Bool → Nat → Nat, qte Nat g a h b k = k s r) ∧ teT x e = W6 s r := by
  obtain ⟨_, _, _, h3⟩ := lnT_bd hs hx
  have hfe := foi_bd he
  have h4 : Bd (fo .mul .f64 (floatOfInt .f64 e) KL2) 8 := (Bd_mul (i := 8) (j := 0) hfe (by unfold Bd; decide +kernel) (by omega) (by omega) (by omega) (by omega) (by omega) (by omega)).mono (by omega)
  have h5 : Bd (fo .add .f64 (lnT x) (fo .mul .f64 (floatOfInt .f64 e) KL2)) 15 := Bd_add (j := 14) h3 (h4.mono (by omega)) (by omega) (by omega)
  have h6 : Bd (fo .mul .f64 (fo .add .f64 (lnT x) (fo .mul .f64 (floatOfInt .f64 e) KL2)) KT) 21 := (Bd_mul (i := 15) (j := 6) h5 (by unfold Bd; decide +kernel) (by omega) (by omega) (by omega) (by omega) (by omega) (by omega)).mono (by omega)
  have h7 : Bd (teT x e) 40 := teT_bd hs hx he
  have hT : teT x e = fo .add .f64 (fo .mul .f64 (fo .add .f64 (lnT x) (fo .mul .f64 (floatOfInt .f64 e) KL2)) KT) K05 := rfl
  rw [foi_q, hh] at hfe
  have fi := W6_lt (qrS_le _ _ _) (hfe.fin (by omega))
  have hm := qmul_is (s := h) (t := false) (y := KL2) fi (by rw [inf64]; decide)
  rw [Bool.xor_false, hb, W6f] at hm
  rw [foi_q, hh, hm] at h4 h5 h6 hT
  have ai : a < FloatKind.f64.format.infRung := by rw [hL] at h3; exact W6_lt ha (h3.fin (by omega))
  have bi : b < FloatKind.f64.format.infRung := W6_lt (by rw [← hb]; exact qmul_le _ _) (h4.fin (by omega))
  have h8 := qsum_is (s := g) (t := h) ai bi
  rw [← hL] at h8
  rw [h8] at h5 h6 hT
  have li := W6_lt (qsumP_le _ _ _ _ (Nat.le_of_lt ai) (Nat.le_of_lt bi)) (h5.fin (by omega))
  have h9 := qmul_is (s := (qsumP g a h b).1) (t := false) (y := KT) li (by rw [inf64]; decide)
  rw [Bool.xor_false, W6f] at h9
  rw [h9] at h6 hT
  have ti := W6_lt (qmul_le _ _) (h6.fin (by omega))
  have h10 := qsum_is (s := (qsumP g a h b).1) (t := false) (y := K05) ti (by rw [inf64]; decide)
  rw [W6f] at h10
  rw [h10] at hT
  refine ⟨(qsumP (qsumP g a h b).1 (qmul (qsumP g a h b).2 KT) false K05).1, (qsumP (qsumP g a h b).1 (qmul (qsumP g a h b).2 KT) false K05).2, ?_, ?_, hT⟩
  · rw [hT] at h7
    exact W6_lt (qsumP_le _ _ _ _ (Nat.le_of_lt ti) (by rw [inf64]; decide)) (h7.fin (by omega))
  · intro k
    unfold qte
    rw [qsum_eq]
    simp only [force_eq]
    rw [qsum_eq]
    rfl
/-! ### The floor -/
theorem cut_down_is (s : Bool) (m d : Nat) : Toward.down.cut s m d = m / 2 ^ d + (s && m % 2 ^ d != 0).toNat := by
  unfold Toward.cut
  simp only [Nat.shiftLeft_eq, Nat.one_mul]
  by_cases h : d ≤ m.log2 + 2
  · rw [Nat.min_eq_left h]
  · rw [Nat.min_eq_right (by omega)]
    have h1 : m < 2 ^ (m.log2 + 1) := Nat.lt_log2_self
    have h2 : m < 2 ^ (m.log2 + 2) := Nat.lt_of_lt_of_le h1 (Nat.pow_le_pow_right (by omega) (by omega))
    have h3 : m < 2 ^ d := Nat.lt_of_lt_of_le h1 (Nat.pow_le_pow_right (by omega) (by omega))
    rw [Nat.div_eq_of_lt h2, Nat.div_eq_of_lt h3, Nat.mod_eq_of_lt h2, Nat.mod_eq_of_lt h3]
theorem whole_exact {s : Bool} {N : Nat} (h : N ≤ 4503599627370496) : wholeI (W6 s (nr FloatKind.f64.format N 0)) = if s then -(N : Int) else N := by
  have hq := nr_whole h
  have hle : nr FloatKind.f64.format N 0 ≤ FloatKind.f64.format.infRung := nr_inf _ _ _
  have hw := whole_val (W6 s (nr FloatKind.f64.format N 0))
  rw [rg_word .f64 s hle, hq.1] at hw
  have h1 := vl_le_same.1 hw.1
  have h2 := vl_lt_same.1 hw.2
  have h3 : whole (W6 s (nr FloatKind.f64.format N 0)) = N := by omega
  unfold wholeI
  rw [h3, sg_word .f64 s hle, signed_shift, Nat.shiftLeft_zero]
theorem qfl_is {s : Bool} {r : Nat} (hr : r < FloatKind.f64.format.infRung) (hb : Bd (W6 s r) 40) (h0 : qfl s r ≠ 0) : wholeI (floorW (W6 s r)) = (qfl s r : Int) - 2000 := by
  unfold Bd at hb
  rw [rg_word .f64 s (Nat.le_of_lt hr), show RP 40 = 4787326403894837248 by decide +kernel] at hb
  have hE : qe r ≤ 1062 := by show r / 4503599627370496 - 1 ≤ 1062; omega
  have hM : qm r ≤ 9007199254740992 := by
    rw [← qm_is]
    have := mg_le FloatKind.f64.format r
    rw [bin64] at this
    exact this
  have hw : floorW (W6 s r) = W6 s (nr FloatKind.f64.format (Toward.down.cut s (qm r) (1074 - qe r)) 0) := by
    unfold floorW
    have hr2 : FloatKind.f64.decode (W6 s r) = .number s (qm r) ((qe r : Int) - 1074) := rd6 s hr
    rw [hr2]
    have h1 : ((qe r : Int) - 1074).toNat = 0 := by omega
    have h2 : (-((qe r : Int) - 1074)).toNat = 1074 - qe r := by omega
    have h3 : FloatKind.f64.encode ((Datum.number s (qm r) ((qe r : Int) - 1074)).integral .down) = FloatKind.f64.format.write (.number s (Toward.down.cut s (qm r <<< ((qe r : Int) - 1074).toNat) (-((qe r : Int) - 1074)).toNat) 0) := rfl
    rw [h3, h1, h2, Nat.shiftLeft_zero, wr6]
  rw [hw, cut_down_is]
  obtain ⟨d, hd⟩ : ∃ d, d = 1074 - qe r := ⟨_, rfl⟩
  have hdiv : qm r / 2 ^ d ≤ 9007199254740992 / 2 ^ 12 := by
    refine Nat.le_trans (Nat.div_le_div_left (Nat.pow_le_pow_right (by omega) (show 12 ≤ d by omega)) (by decide)) ?_
    exact Nat.div_le_div_right hM
  have hc := Bool.toNat_le (s && qm r % 2 ^ d != 0)
  have hq : qfl s r = cond s (2000 - (qm r / 2 ^ d + cond (Nat.beq (qm r % 2 ^ d) 0) 0 1)) (2000 + qm r / 2 ^ d) := by
    unfold qfl
    simp only [force_eq]
    rw [hd]
    rfl
  have hz : ∀ z : Nat, (z != 0).toNat = cond (Nat.beq z 0) 0 1 := by intro z; cases z <;> rfl
  rw [← hd, whole_exact (by omega), hq]
  rw [hq] at h0
  cases s
  · simp only [Bool.false_eq_true, if_false, Bool.false_and, Bool.toNat_false, Nat.add_zero, cond_false]
    omega
  · simp only [if_true, Bool.true_and, cond_true] at h0 ⊢
    rw [hz]
    omega
/-! ### n/64 as a word -/
def R6 (n : Nat) : Nat := 4575657221408423936 + n.log2 * 4503599627370496 + n <<< (52 - n.log2)
theorem R6_val {n : Nat} (h0 : n ≠ 0) (h : n < 2 ^ 40) : rv FloatKind.f64.format (R6 n) = vl n (-6) ∧ 4503599627370496 ≤ n <<< (52 - n.log2) ∧ n <<< (52 - n.log2) < 9007199254740992 ∧ n.log2 < 40 := by
  have hl : n.log2 < 40 := (Nat.log2_lt h0).2 h
  have h1 : 2 ^ n.log2 ≤ n := Nat.log2_self_le h0
  have h2 : n < 2 ^ (n.log2 + 1) := Nat.lt_log2_self
  have h3 : 4503599627370496 ≤ n <<< (52 - n.log2) := by
    rw [Nat.shiftLeft_eq]
    have := Nat.mul_le_mul_right (2 ^ (52 - n.log2)) h1
    rwa [← Nat.pow_add, show n.log2 + (52 - n.log2) = 52 by omega] at this
  have h4 : n <<< (52 - n.log2) < 9007199254740992 := by
    rw [Nat.shiftLeft_eq]
    have := Nat.mul_lt_mul_of_pos_right h2 (show 0 < 2 ^ (52 - n.log2) from Nat.two_pow_pos _)
    rwa [← Nat.pow_add, show n.log2 + 1 + (52 - n.log2) = 53 by omega] at this
  refine ⟨?_, h3, h4, hl⟩
  have h5 := rv_norm (g := (n.log2 : Int) - 58) h3 h4 (by omega)
  rw [show (((n.log2 : Int) - 58) + 1074).toNat = 1016 + n.log2 by omega, Nat.add_mul, show 1016 * 4503599627370496 = 4575657221408423936 from rfl] at h5
  unfold R6
  rw [h5, Nat.shiftLeft_eq, show ((n.log2 : Int) - 58) = -6 - ((52 - n.log2 : Nat) : Int) by omega, vl_shift]
theorem qtX_is {x E : Nat} (h0 : K075 ≤ x) (h1 : x < K15) (hE : E ≤ 60) (hn : qtX x E ≠ 0) : wholeI (floorW (teT x ((E : Int) - 6))) = (qtX x E : Int) - 2000 := by
  obtain ⟨g, a, ha, hk, hL⟩ := qln_is h1
  have hxi : x < FloatKind.f64.format.infRung := by rw [inf64]; unfold K15 at h1; omega
  obtain ⟨_, hs, hr⟩ := pos_facts hxi
  have hb : Bd x 1 := by
    unfold Bd
    rw [hr, show RP 1 = 4611686018427387904 by decide +kernel]
    unfold K15 at h1
    omega
  have hble : Nat.ble 6 E = decide (6 ≤ E) := by rw [Bool.eq_iff_iff, Nat.ble_eq, decide_eq_true_iff]
  have hnat : (cond (Nat.ble 6 E) (Nat.sub E 6) (Nat.sub 6 E)) = ((E : Int) - 6).natAbs := by
    rw [hble]
    by_cases h : 6 ≤ E
    · rw [decide_eq_true h]; show E - 6 = _; omega
    · rw [decide_eq_false h]; show 6 - E = _; omega
  have hsg : decide ((E : Int) - 6 < 0) = (!Nat.ble 6 E) := by
    rw [hble]
    by_cases h : 6 ≤ E
    · rw [decide_eq_true h]; exact decide_eq_false (by omega)
    · rw [decide_eq_false h]; exact decide_eq_true (by omega)
  obtain ⟨s, r, hri, hq, hT⟩ := qte_is (e := (E : Int) - 6) hs hb (by omega) hL ha hsg rfl
  have hX : qtX x E = qfl s r := by
    unfold qtX
    simp only [force_eq]
    rw [hk, hnat]
    exact hq _
  have hb40 := teT_bd (e := (E : Int) - 6) hs hb (by omega)
  rw [hT] at hb40 ⊢
  rw [hX] at hn ⊢
  exact qfl_is hri hb40 hn
/-- The tenths of n/64. -/
theorem qten_is {n : Nat} (h0 : n ≠ 0) (h : n < 2 ^ 40) (hn : qten n ≠ 0) : tenF (R6 n) = (qten n : Int) - 2000 := by
  obtain ⟨_, h3, h4, hl⟩ := R6_val h0 h
  have hq : qten n = cond (Nat.ble 6755399441055744 (n <<< (52 - n.log2))) (qtX (4598175219545276416 + n <<< (52 - n.log2)) (n.log2 + 1)) (qtX (4602678819172646912 + n <<< (52 - n.log2)) n.log2) := by
    unfold qten
    simp only [force_eq, qlg_is]
    rfl
  have hR : R6 n = 4575657221408423936 + n.log2 * 4503599627370496 + n <<< (52 - n.log2) := rfl
  rw [hq] at hn ⊢
  rw [hR]
  clear hq hR
  generalize n <<< (52 - n.log2) = c at *
  have hble : Nat.ble 6755399441055744 c = decide (6755399441055744 ≤ c) := by rw [Bool.eq_iff_iff, Nat.ble_eq, decide_eq_true_iff]
  rw [hble] at hn ⊢
  have hP : ∀ {x : Nat} (E : Nat), 4604930618986332160 ≤ x → x < 4609434218613702656 → E ≤ 60 → 4575657221408423936 + n.log2 * 4503599627370496 + c + 27021597764222976 = x + E * 4503599627370496 → tenP (4575657221408423936 + n.log2 * 4503599627370496 + c) = (x, (E : Int) - 6) := by
    clear hn hble
    intro x E ha hb hE he
    by_cases h6 : 6 ≤ E
    · have e1 : 4575657221408423936 + n.log2 * 4503599627370496 + c = x + (E - 6) * 4503599627370496 := by omega
      have e2 : E - 6 ≤ 100 := by omega
      have e3 : K075 ≤ x := ha
      have e4 : x < K15 := hb
      have e5 := tenP_up e3 e4 e2
      rw [e1, e5]
      congr 1
      omega
    · have e1 : 4575657221408423936 + n.log2 * 4503599627370496 + c = x - (6 - E) * 4503599627370496 := by omega
      have e2 : 6 - E ≤ 100 := by omega
      have e3 : K075 ≤ x := ha
      have e4 : x < K15 := hb
      have e5 := tenP_dn e3 e4 e2
      rw [e1, e5]
      congr 1
      omega
  unfold tenF
  by_cases hc : 6755399441055744 ≤ c
  · rw [decide_eq_true hc, cond_true] at hn ⊢
    rw [hP (x := 4598175219545276416 + c) (n.log2 + 1) (by omega) (by omega) (by omega) (by omega)]
    exact qtX_is (x := 4598175219545276416 + c) (by unfold K075; omega) (by unfold K15; omega) (by omega) hn
  · rw [decide_eq_false hc, cond_false] at hn ⊢
    rw [hP (x := 4602678819172646912 + c) n.log2 (by omega) (by omega) (by omega) (by omega)]
    exact qtX_is (x := 4602678819172646912 + c) (by unfold K075; omega) (by unfold K15; omega) (by omega) hn
end Go.Proofs.Ytokbpcfgeklliaa
