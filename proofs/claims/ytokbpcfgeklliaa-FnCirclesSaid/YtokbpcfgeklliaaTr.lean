/-
  Cutting off the places behind the point; fractions of turns; rounding keeps bounds. Plain facts on words; no function of the program.
-/
import Derived.Test.YtokbpcfgeklliaaAr
namespace Go.Proofs.Ytokbpcfgeklliaa
open Ieee

/-! ### Rounding keeps bounds -/
theorem round_nonneg {s : Bool} {m : Nat} {e : Int} (h : 0 ≤ sv s m e) : 0 ≤ wv .f64 (FloatKind.f64.format.word s (nr FloatKind.f64.format m e)) := by
  have hp := rv_nonneg FloatKind.f64.format (nr FloatKind.f64.format m e)
  unfold wv
  rw [rg_word .f64 _ (nr_inf _ _ _), sg_word .f64 _ (nr_inf _ _ _)]
  cases s
  · simpa using hp
  · have h1 := vl_nonneg m e
    unfold sv at h
    simp only [if_true] at h
    have h2 : vl m e = 0 := by grind
    have hm : nr FloatKind.f64.format m e ≤ 0 := nr_le_rung _ (by rw [rv_zero, h2]; exact Rat.le_refl)
    have : nr FloatKind.f64.format m e = 0 := by omega
    rw [this, rv_zero]
    decide
theorem round_le {s : Bool} {m : Nat} {e : Int} {R : Nat} (hR : R ≤ FloatKind.f64.format.infRung) (h : sv s m e ≤ rv FloatKind.f64.format R) : wv .f64 (FloatKind.f64.format.word s (nr FloatKind.f64.format m e)) ≤ rv FloatKind.f64.format R := by
  have hp := rv_nonneg FloatKind.f64.format (nr FloatKind.f64.format m e)
  have hq := rv_nonneg FloatKind.f64.format R
  unfold wv
  rw [rg_word .f64 _ (nr_inf _ _ _), sg_word .f64 _ (nr_inf _ _ _)]
  cases s
  · simp only [Bool.false_eq_true, if_false]
    have : vl m e ≤ rv FloatKind.f64.format R := by simpa [sv] using h
    exact rv_le _ hR (nr_le_rung _ this)
  · simp only [if_true]
    grind
theorem round_ge {s : Bool} {m : Nat} {e : Int} {R : Nat} (hR : R ≤ FloatKind.f64.format.infRung) (h : rv FloatKind.f64.format R ≤ sv s m e) : rv FloatKind.f64.format R ≤ wv .f64 (FloatKind.f64.format.word s (nr FloatKind.f64.format m e)) := by
  have hp := rv_nonneg FloatKind.f64.format (nr FloatKind.f64.format m e)
  have hq := rv_nonneg FloatKind.f64.format R
  unfold wv
  rw [rg_word .f64 _ (nr_inf _ _ _), sg_word .f64 _ (nr_inf _ _ _)]
  cases s
  · simp only [Bool.false_eq_true, if_false]
    have : rv FloatKind.f64.format R ≤ vl m e := by simpa [sv] using h
    exact rv_le _ (nr_inf _ _ _) (nr_ge_rung _ hR this)
  · have h1 := vl_nonneg m e
    unfold sv at h
    simp only [if_true] at h
    have h2 : vl m e = 0 := by grind
    have h3 : rv FloatKind.f64.format R = 0 := by grind
    have hm : nr FloatKind.f64.format m e ≤ 0 := nr_le_rung _ (by rw [rv_zero, h2]; exact Rat.le_refl)
    have : nr FloatKind.f64.format m e = 0 := by omega
    rw [this, rv_zero, h3]
    decide
/-- From a value's bounds to a bound of the word. -/
theorem Bd_of_val {b : Nat} {j : Int} (hf : fin .f64 b = true) (h0 : -1022 ≤ j) (h1 : j ≤ 1023) (h : wv .f64 b ≤ vl 1 j) (h' : - vl 1 j ≤ wv .f64 b) : Bd b j := by
  unfold Bd
  have hr := of_decide_eq_true hf
  by_cases hh : rg .f64 b ≤ RP j
  · exact hh
  · exfalso
    have h2 : rv FloatKind.f64.format (RP j) < rv FloatKind.f64.format (rg .f64 b) := rv_lt _ (Nat.le_of_lt hr) (by omega)
    rw [rv_RP h0 h1] at h2
    unfold wv at h h'
    split at h <;> grind

/-! ### Whole numbers -/
/-- The words of numbers with 53 digits. -/
theorem rv_norm {c : Nat} {g : Int} (h1 : 4503599627370496 ≤ c) (h2 : c < 9007199254740992) (hg : -1074 ≤ g) : rv FloatKind.f64.format ((g + 1074).toNat * 4503599627370496 + c) = vl c g := by
  obtain ⟨a, ha⟩ : ∃ a : Nat, a = (g + 1074).toNat := ⟨_, rfl⟩
  rw [← ha]
  have h3 : ¬ a * 4503599627370496 + c < 4503599627370496 := by omega
  have hm : mg FloatKind.f64.format (a * 4503599627370496 + c) = c := by
    unfold mg
    rw [bin64, if_neg h3]
    omega
  have hp : pl FloatKind.f64.format (a * 4503599627370496 + c) = g := by
    unfold pl
    rw [bin64, if_neg h3, lp64]
    have : (a * 4503599627370496 + c) / 4503599627370496 = a + 1 := by omega
    rw [this]
    omega
  unfold rv
  rw [hm, hp]
/-- A whole number up to 2 to the power of 52 is a 64-bit number. -/
theorem nr_whole {q : Nat} (hq : q ≤ 4503599627370496) : rv FloatKind.f64.format (nr FloatKind.f64.format q 0) = vl q 0 ∧ nr FloatKind.f64.format q 0 ≤ RP 52 := by
  by_cases h0 : q = 0
  · subst h0
    have : nr FloatKind.f64.format 0 0 = 0 := rfl
    rw [this, rv_zero]
    exact ⟨by simp [vl], Nat.zero_le _⟩
  · have hb : nr FloatKind.f64.format q 0 ≤ RP 52 := nr_le_p2 (by omega) (by omega) (by
      have h3 : vl (4503599627370496) 0 = vl 1 52 := by rw [show (4503599627370496 : Nat) = 2 ^ 52 from rfl, vl_pow]; rfl
      rw [← h3]
      exact vl_le_same.2 hq)
    refine ⟨?_, hb⟩
    have hl1 := Nat.log2_self_le h0
    have hl2 := Nat.lt_log2_self (n := q)
    have hL : q.log2 ≤ 52 := by
      by_cases hh : q.log2 ≤ 52
      · exact hh
      · have : 2 ^ 53 ≤ 2 ^ q.log2 := Nat.pow_le_pow_right (by omega) (by omega)
        omega
    obtain ⟨d, hd⟩ : ∃ d, d = 52 - q.log2 := ⟨_, rfl⟩
    have hc1 : 4503599627370496 ≤ q * 2 ^ d := by
      have : 2 ^ q.log2 * 2 ^ d ≤ q * 2 ^ d := Nat.mul_le_mul_right _ hl1
      rw [← Nat.pow_add, show q.log2 + d = 52 by omega] at this
      exact this
    have hc2 : q * 2 ^ d < 9007199254740992 := by
      have : q * 2 ^ d < 2 ^ (q.log2 + 1) * 2 ^ d := Nat.mul_lt_mul_of_pos_right hl2 (Nat.two_pow_pos d)
      rw [← Nat.pow_add, show q.log2 + 1 + d = 53 by omega] at this
      exact this
    have hv : vl (q * 2 ^ d) (0 - (d : Int)) = vl q 0 := vl_shift q 0 d
    have hr := rv_norm hc1 hc2 (g := 0 - (d : Int)) (by omega)
    rw [← hv, ← hr]
    congr 1
    refine nr_self _ ?_ (by rw [hr, hv])
    rw [inf64]
    omega
theorem cut_zero_way (neg : Bool) (n drop : Nat) : Toward.zero.cut neg n drop * 2 ^ drop ≤ n ∧ n < (Toward.zero.cut neg n drop + 1) * 2 ^ drop := by
  have hp : 0 < 2 ^ drop := Nat.two_pow_pos _
  have hn : n < 2 ^ (n.log2 + 1) := Nat.lt_log2_self
  simp only [Toward.cut, Nat.shiftLeft_eq, Nat.one_mul, Bool.toNat_false, Nat.add_zero]
  by_cases hd : drop ≤ n.log2 + 2
  · rw [Nat.min_eq_left hd]
    have h1 := Nat.div_add_mod n (2 ^ drop)
    have h2 := Nat.mod_lt n hp
    rw [Nat.mul_comm] at h1
    rw [Nat.add_mul]
    omega
  · have hp2 : 2 ^ (n.log2 + 1) ≤ 2 ^ drop := Nat.pow_le_pow_right (by omega) (by omega)
    have hp3 : 2 ^ (n.log2 + 1) ≤ 2 ^ (n.log2 + 2) := Nat.pow_le_pow_right (by omega) (by omega)
    rw [Nat.min_eq_right (by omega), Nat.div_eq_of_lt (by omega)]
    omega

/-- The places behind the point cut off, of a number: how many are left. -/
def whole (t : Nat) : Nat := Toward.zero.cut (sg .f64 t) ((mg FloatKind.f64.format (rg .f64 t)) <<< (pl FloatKind.f64.format (rg .f64 t)).toNat) (-(pl FloatKind.f64.format (rg .f64 t))).toNat
theorem whole_val (t : Nat) : vl (whole t) 0 ≤ rv FloatKind.f64.format (rg .f64 t) ∧ rv FloatKind.f64.format (rg .f64 t) < vl (whole t + 1) 0 := by
  unfold whole rv
  generalize mg FloatKind.f64.format (rg .f64 t) = m
  generalize pl FloatKind.f64.format (rg .f64 t) = e
  have h := cut_zero_way (sg .f64 t) (m <<< e.toNat) (-e).toNat
  generalize Toward.zero.cut (sg .f64 t) (m <<< e.toNat) (-e).toNat = q at h
  obtain ⟨h1, h2⟩ := h
  by_cases he : 0 ≤ e
  · have e1 : (-e).toNat = 0 := by omega
    rw [e1, Nat.shiftLeft_eq] at h1 h2
    simp only [Nat.pow_zero, Nat.mul_one] at h1 h2
    rw [vl_to m he, show (e - 0).toNat = e.toNat by omega]
    exact ⟨vl_le_same.2 h1, vl_lt_same.2 h2⟩
  · have e1 : e.toNat = 0 := by omega
    rw [e1, Nat.shiftLeft_zero] at h1 h2
    have hto : ∀ z, vl z 0 = vl (z * 2 ^ (-e).toNat) e := by
      intro z
      rw [vl_to z (show e ≤ 0 by omega)]
      congr 3
      omega
    rw [hto, hto]
    exact ⟨vl_le_same.2 h1, vl_lt_same.2 h2⟩
theorem whole_le {t : Nat} (h : Bd t 52) : whole t ≤ 4503599627370496 := by
  have h1 := (whole_val t).1
  have h2 : rv FloatKind.f64.format (rg .f64 t) ≤ vl 1 52 := h.val (by omega) (by omega)
  have h3 : vl (4503599627370496) 0 = vl 1 52 := by rw [show (4503599627370496 : Nat) = 2 ^ 52 from rfl, vl_pow]; rfl
  rw [← h3] at h2
  exact vl_le_same.1 (rle_trans h1 h2)
/-- The whole part, as the number that it is. -/
def wholeI (t : Nat) : Int := signed (sg .f64 t) (whole t) 0
theorem toInt_whole {t : Nat} (hf : fin .f64 t = true) : (FloatKind.f64.decode t).toInt .zero = some (wholeI t) := by
  have hr : FloatKind.f64.decode t = _ := read_fin hf
  rw [hr]
  rfl
theorem floatToInt_whole {t : Nat} (h : Bd t 52) : floatToIntVal .f64 t .i64 = some (wholeI t) := by
  unfold floatToIntVal
  rw [toInt_whole (h.fin (by omega))]
  have h1 := whole_le h
  have h2 : IntKind.i64.min ≤ wholeI t ∧ wholeI t ≤ IntKind.i64.max := by
    have e1 : IntKind.i64.min = -9223372036854775808 := by decide
    rw [e1, IntKind.max_i64]
    unfold wholeI signed
    rw [Nat.shiftLeft_zero]
    split <;> omega
  simp only [h2, and_self, if_true]
/-- The word of the whole part with its sign: what Trunc gives. -/
def truncW (t : Nat) : Nat := FloatKind.f64.format.word (sg .f64 t) (nr FloatKind.f64.format (whole t) 0)
theorem integral_trunc {t : Nat} (hf : fin .f64 t = true) : FloatKind.f64.encode ((FloatKind.f64.decode t).integral .zero) = truncW t := by
  have hr : FloatKind.f64.decode t = _ := read_fin hf
  rw [hr]
  exact nearest_eq _ _ _ _
theorem foi_whole (t : Nat) : floatOfInt .f64 (wholeI t) = if whole t = 0 then 0 else truncW t := by
  have h1 : floatOfInt .f64 (wholeI t) = FloatKind.f64.format.word (wholeI t < 0) (nr FloatKind.f64.format (wholeI t).natAbs 0) := nearest_eq _ _ _ _
  rw [h1]
  unfold wholeI signed truncW
  rw [Nat.shiftLeft_zero]
  by_cases h : whole t = 0
  · rw [if_pos h, h]
    cases sg .f64 t <;> rfl
  · rw [if_neg h]
    cases hs : sg .f64 t
    · simp only [Bool.false_eq_true, if_false, Int.natAbs_natCast]
      have : ¬ ((whole t : Int) < 0) := by omega
      simp only [this, decide_false]
    · simp only [if_true, Int.natAbs_neg, Int.natAbs_natCast]
      have : (-(whole t : Int) < 0) := by omega
      simp only [this, decide_true]
theorem trunc_zero {t : Nat} (h : Bd t 52) : (FloatKind.f64.format.order (truncW t) 0 == some .eq) = decide (whole t = 0) := by
  have hq := nr_whole (whole_le h)
  have hle : nr FloatKind.f64.format (whole t) 0 ≤ FloatKind.f64.format.infRung := nr_inf _ _ _
  have hf : fin .f64 (truncW t) = true := by
    unfold fin truncW
    rw [rg_word .f64 _ hle, inf64]
    exact decide_eq_true (Nat.lt_of_le_of_lt hq.2 (RP_inf (by omega)))
  have h0 : fin .f64 0 = true := by decide +kernel
  rw [eq_fin hf h0]
  have hz : wv .f64 0 = 0 := by rw [wv_pos_word (by rw [sw64]; omega), rv_zero]
  rw [hz]
  have hv : wv .f64 (truncW t) = if sg .f64 t then - vl (whole t) 0 else vl (whole t) 0 := by
    unfold wv truncW
    rw [rg_word .f64 _ hle, sg_word .f64 _ hle, hq.1]
  rw [hv]
  refine decide_eq_decide.2 ?_
  by_cases hw : whole t = 0
  · rw [hw]
    simp [vl]
  · have hp : 0 < vl (whole t) 0 := by
      have h0' : vl 0 0 = 0 := by simp [vl]
      rw [← h0']
      exact vl_lt_same.2 (by omega)
    simp only [hw, iff_false]
    split <;> grind

/-! ### The fraction -/
def K1 : Nat := 4607182418800017408
def lssC (x y : Nat) : Bool := FloatKind.f64.format.order x y == some .lt
def gtrC (x y : Nat) : Bool := FloatKind.f64.format.order x y == some .gt
def geqC (x y : Nat) : Bool := FloatKind.f64.format.order x y == some .gt || FloatKind.f64.format.order x y == some .eq
/-- A number of turns less whole turns. -/
def fracC (t : Nat) : Nat := if lssC (fo .sub .f64 t (floatOfInt .f64 (wholeI t))) 0 then fo .add .f64 (fo .sub .f64 t (floatOfInt .f64 (wholeI t))) K1 else fo .sub .f64 t (floatOfInt .f64 (wholeI t))
theorem foi_val {t : Nat} (h : Bd t 52) : wv .f64 (floatOfInt .f64 (wholeI t)) = (if sg .f64 t then - vl (whole t) 0 else vl (whole t) 0) ∧ Bd (floatOfInt .f64 (wholeI t)) 52 := by
  have hq := nr_whole (whole_le h)
  have hle : nr FloatKind.f64.format (whole t) 0 ≤ FloatKind.f64.format.infRung := nr_inf _ _ _
  rw [foi_whole]
  by_cases hw : whole t = 0
  · rw [if_pos hw, hw]
    refine ⟨?_, Nat.zero_le _⟩
    rw [wv_pos_word (by rw [sw64]; omega), rv_zero]
    simp [vl]
  · rw [if_neg hw]
    unfold truncW
    refine ⟨?_, ?_⟩
    · unfold wv
      rw [rg_word .f64 _ hle, sg_word .f64 _ hle, hq.1]
    · unfold Bd
      rw [rg_word .f64 _ hle]
      exact hq.2
theorem vl_one_zero : vl 1 0 = 1 := by
  unfold vl
  rw [Rat.zpow_zero, Rat.mul_one]
  rfl
theorem rv_one : rv FloatKind.f64.format K1 = 1 := by
  have h : K1 = RP 0 := by decide +kernel
  rw [h, rv_RP (by omega) (by omega)]
  exact vl_one_zero
theorem K1_inf : K1 ≤ FloatKind.f64.format.infRung := by decide +kernel
theorem wv_K1 : wv .f64 K1 = 1 := by rw [wv_pos_word (by decide +kernel), rv_one]
theorem frac_bd {t : Nat} (h : Bd t 52) : fin .f64 (fracC t) = true ∧ 0 ≤ wv .f64 (fracC t) ∧ wv .f64 (fracC t) ≤ 1 := by
  obtain ⟨hv, hb⟩ := foi_val h
  have hft := h.fin (by omega)
  obtain ⟨s, m, e, h1, h2⟩ := sub_spec hft (hb.fin (by omega))
  have hw := whole_val t
  have hone : vl (whole t + 1) 0 = vl (whole t) 0 + 1 := by
    unfold vl
    rw [Rat.natCast_add]
    have : ((1 : Nat) : Rat) = 1 := rfl
    rw [this]
    grind
  rw [hone] at hw
  have habs : sv s m e ≤ 1 ∧ -1 ≤ sv s m e ∧ (sg .f64 t = false → 0 ≤ sv s m e) := by
    rw [h2, hv]
    unfold wv
    cases hs : sg .f64 t
    · simp only [Bool.false_eq_true, if_false]
      refine ⟨by grind, by grind, fun _ => by grind⟩
    · simp only [if_true]
      refine ⟨by grind, by grind, fun h => by cases h⟩
  have hd : fo .sub .f64 t (floatOfInt .f64 (wholeI t)) = FloatKind.f64.format.word s (nr FloatKind.f64.format m e) := fo_some h1
  have hBd : Bd (FloatKind.f64.format.word s (nr FloatKind.f64.format m e)) 0 := Bd_word (by omega) (by omega) (by rw [sv_abs s, vl_one_zero]; split <;> grind)
  have hfd := hBd.fin (by omega)
  unfold fracC
  rw [hd]
  generalize hD : FloatKind.f64.format.word s (nr FloatKind.f64.format m e) = D at *
  have hub : wv .f64 D ≤ 1 := by
    have := wv_abs hBd (by omega) (by omega)
    rw [vl_one_zero] at this
    exact this.1
  have hlb : -1 ≤ wv .f64 D := by
    have := wv_abs hBd (by omega) (by omega)
    rw [vl_one_zero] at this
    exact this.2
  have h0 : fin .f64 0 = true := by decide +kernel
  have hz : wv .f64 0 = 0 := by rw [wv_pos_word (by rw [sw64]; omega), rv_zero]
  cases hl : lssC D 0
  · simp only [Bool.false_eq_true, if_false]
    unfold lssC at hl
    rw [lt_fin hfd h0, hz] at hl
    have := of_decide_eq_false hl
    exact ⟨hfd, by grind, hub⟩
  · simp only [if_true]
    unfold lssC at hl
    rw [lt_fin hfd h0, hz] at hl
    have hneg := of_decide_eq_true hl
    have hk : fin .f64 K1 = true := by decide +kernel
    obtain ⟨s', m', e', k1, k2⟩ := add_spec hfd hk
    rw [fo_some k1]
    rw [wv_K1] at k2
    have hB2 : Bd (FloatKind.f64.format.word s' (nr FloatKind.f64.format m' e')) 0 := Bd_word (by omega) (by omega) (by rw [sv_abs s', vl_one_zero, k2]; split <;> grind)
    refine ⟨hB2.fin (by omega), round_nonneg (by rw [k2]; grind), ?_⟩
    have := wv_abs hB2 (by omega) (by omega)
    rw [vl_one_zero] at this
    exact this.1
end Go.Proofs.Ytokbpcfgeklliaa
