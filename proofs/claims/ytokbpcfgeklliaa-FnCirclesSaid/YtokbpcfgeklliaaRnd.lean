/-
  Rounding by bounds: what is not above a number of the format is not rounded above it, and likewise below. Plain facts on words and rationals; no function of the program.
-/
import Derived.Test.YtokbpcfgeklliaaFl
namespace Go.Proofs.Ytokbpcfgeklliaa
open Ieee

/-- The value of 'm' at place 'e'. -/
def vl (m : Nat) (e : Int) : Rat := (m : Rat) * (2 : Rat) ^ e
theorem two_ne : (2 : Rat) ≠ 0 := by decide
theorem p2_pos (e : Int) : (0 : Rat) < (2 : Rat) ^ e := Rat.zpow_pos (by decide)
theorem p2_add (a b : Int) : (2 : Rat) ^ (a + b) = (2 : Rat) ^ a * (2 : Rat) ^ b := Rat.zpow_add two_ne a b
theorem p2_nat (n : Nat) : (2 : Rat) ^ (n : Int) = ((2 ^ n : Nat) : Rat) := by
  rw [Rat.zpow_natCast, Rat.natCast_pow]; rfl
theorem vl_nonneg (m : Nat) (e : Int) : 0 ≤ vl m e := Rat.mul_nonneg (Rat.natCast_nonneg) (Rat.le_of_lt (p2_pos e))
/-- Shifted: the same value at a lower place. -/
theorem vl_shift (m : Nat) (e : Int) (n : Nat) : vl (m * 2 ^ n) (e - n) = vl m e := by
  unfold vl
  rw [Rat.natCast_mul, ← p2_nat, Rat.mul_assoc, ← p2_add]
  congr 2
  omega
theorem vl_le_same {a b : Nat} {e : Int} : vl a e ≤ vl b e ↔ a ≤ b := by
  unfold vl
  constructor
  · intro h
    exact Rat.natCast_le_natCast.1 (Rat.le_of_mul_le_mul_right h (p2_pos e))
  · intro h
    exact Rat.mul_le_mul_of_nonneg_right (Rat.natCast_le_natCast.2 h) (Rat.le_of_lt (p2_pos e))
theorem vl_lt_same {a b : Nat} {e : Int} : vl a e < vl b e ↔ a < b := by
  unfold vl
  rw [Rat.mul_lt_mul_right (p2_pos e), Rat.natCast_lt_natCast]
/-- To a lower place 'g'. -/
theorem vl_to (m : Nat) {e g : Int} (h : g ≤ e) : vl m e = vl (m * 2 ^ (e - g).toNat) g := by
  have := vl_shift m e (e - g).toNat
  rw [← this]
  congr 1
  omega
theorem vl_pow (n : Nat) (e : Int) : vl (2 ^ n) e = vl 1 (e + n) := by
  have := vl_shift 1 (e + n) n
  rw [Nat.one_mul] at this
  rw [← this]
  congr 1
  omega
theorem vl1_le {a b : Int} : vl 1 a ≤ vl 1 b ↔ a ≤ b := by
  by_cases h : a ≤ b
  · simp only [h, iff_true]
    rw [vl_to 1 h]
    exact vl_le_same.2 (by have := Nat.two_pow_pos (b - a).toNat; omega)
  · simp only [h, iff_false, Rat.not_le]
    rw [vl_to 1 (show b ≤ a by omega)]
    have h1 : 1 < 2 ^ (a - b).toNat := Nat.one_lt_two_pow (by omega)
    exact vl_lt_same.2 (by omega)
theorem vl1_lt {a b : Int} : vl 1 a < vl 1 b ↔ a < b := by
  rw [← Rat.not_le, vl1_le]
  omega
theorem log_le {m : Nat} (hm : m ≠ 0) (e : Int) : vl 1 (e + m.log2) ≤ vl m e := by
  rw [← vl_pow]
  exact vl_le_same.2 (Nat.log2_self_le hm)
theorem lt_log (m : Nat) (e : Int) : vl m e < vl 1 (e + m.log2 + 1) := by
  have : vl (2 ^ (m.log2 + 1)) e = vl 1 (e + m.log2 + 1) := by
    rw [vl_pow]
    congr 1
    omega
  rw [← this]
  exact vl_lt_same.2 Nat.lt_log2_self

/-! ### The cut -/
theorem cut_zero (neg : Bool) (n : Nat) : Toward.even.cut neg n 0 = n := by
  simp [Toward.cut, Nat.mod_one]
theorem cut_small {n drop : Nat} (neg : Bool) (h : n.log2 + 2 ≤ drop) : Toward.even.cut neg n drop = 0 := by
  have hn : n < 2 ^ (n.log2 + 1) := Nat.lt_log2_self
  have hp : 2 ^ (n.log2 + 2) = 2 * 2 ^ (n.log2 + 1) := by rw [Nat.pow_succ]; omega
  have h0 : n / 2 ^ (n.log2 + 2) = 0 := Nat.div_eq_of_lt (by omega)
  have h1 : n % 2 ^ (n.log2 + 2) = n := Nat.mod_eq_of_lt (by omega)
  simp only [Toward.cut, Nat.min_eq_right h, Nat.shiftLeft_eq, Nat.one_mul, h0, h1]
  have h2 : ¬ (2 ^ (n.log2 + 2) < 2 * n) := by omega
  simp [h2]
theorem cut_big {n drop : Nat} (neg : Bool) (h : drop ≤ n.log2 + 2) : Toward.even.cut neg n drop = n / 2 ^ drop + (decide (2 ^ drop < 2 * (n % 2 ^ drop)) || (2 ^ drop == 2 * (n % 2 ^ drop) && n / 2 ^ drop % 2 == 1)).toNat := by
  simp only [Toward.cut, Nat.min_eq_left h, Nat.shiftLeft_eq, Nat.one_mul]
theorem cut_le {n c drop : Nat} (neg : Bool) (h : n ≤ c * 2 ^ drop) : Toward.even.cut neg n drop ≤ c := by
  by_cases hd : n.log2 + 2 ≤ drop
  · rw [cut_small neg hd]; exact Nat.zero_le _
  · rw [cut_big neg (by omega)]
    have hp : 0 < 2 ^ drop := Nat.two_pow_pos _
    have h1 : n / 2 ^ drop ≤ c := Nat.div_le_of_le_mul (by rw [Nat.mul_comm]; exact h)
    have h2 := Nat.div_add_mod n (2 ^ drop)
    by_cases hc : n / 2 ^ drop = c
    · have h3 : n % 2 ^ drop = 0 := by rw [hc, Nat.mul_comm] at h2; omega
      rw [h3]
      have : (2 ^ drop == 2 * 0) = false := by
        rw [beq_eq_false_iff_ne]
        omega
      rw [this, hc]
      simp
    · have := Bool.toNat_le (decide (2 ^ drop < 2 * (n % 2 ^ drop)) || (2 ^ drop == 2 * (n % 2 ^ drop) && n / 2 ^ drop % 2 == 1))
      omega
theorem cut_ge {n c drop : Nat} (neg : Bool) (h : c * 2 ^ drop ≤ n) : c ≤ Toward.even.cut neg n drop := by
  by_cases hd : n.log2 + 2 ≤ drop
  · have hn : n < 2 ^ (n.log2 + 1) := Nat.lt_log2_self
    have hp : 2 ^ (n.log2 + 1) ≤ 2 ^ drop := Nat.pow_le_pow_right (by omega) (by omega)
    cases c with
    | zero => exact Nat.zero_le _
    | succ c =>
      rw [Nat.add_mul] at h
      have := Nat.zero_le (c * 2 ^ drop)
      omega
  · rw [cut_big neg (by omega)]
    have hp : 0 < 2 ^ drop := Nat.two_pow_pos _
    have h1 : c ≤ n / 2 ^ drop := (Nat.le_div_iff_mul_le hp).2 h
    omega

/-! ### The rung that a value is rounded to -/
def lastOf (f : Format) (m : Nat) (e : Int) : Int := max (e + m.log2 - f.fractionBits) f.leastPlace
def keptOf (f : Format) (m : Nat) (e : Int) : Nat := Toward.even.cut false (m <<< (e - lastOf f m e).toNat) (lastOf f m e - e).toNat
def nr (f : Format) (m : Nat) (e : Int) : Nat := if m = 0 then 0 else min ((lastOf f m e - f.leastPlace).toNat * f.binade + keptOf f m e) f.infRung
theorem cut_neg (neg : Bool) (n drop : Nat) : Toward.even.cut neg n drop = Toward.even.cut false n drop := rfl
theorem nearest_eq (f : Format) (neg : Bool) (m : Nat) (e : Int) : f.nearest neg m e = f.word neg (nr f m e) := by
  unfold Format.nearest nr
  by_cases h : m = 0
  · rw [if_pos h, if_pos h]
  · rw [if_neg h, if_neg h]
    simp only [cut_neg neg]
    rfl
theorem nr_inf (f : Format) (m : Nat) (e : Int) : nr f m e ≤ f.infRung := by
  unfold nr
  split
  · exact Nat.zero_le _
  · exact Nat.min_le_right _ _

theorem kept_le (f : Format) {m c : Nat} {e : Int} (h : vl m e ≤ vl c (lastOf f m e)) : keptOf f m e ≤ c := by
  unfold keptOf
  generalize lastOf f m e = last at h
  by_cases hl : last ≤ e
  · have h0 : (last - e).toNat = 0 := by omega
    rw [h0, cut_zero, Nat.shiftLeft_eq]
    rw [vl_to m hl] at h
    exact vl_le_same.1 h
  · have h0 : (e - last).toNat = 0 := by omega
    rw [h0, Nat.shiftLeft_zero]
    rw [vl_to c (show e ≤ last by omega)] at h
    exact cut_le false (vl_le_same.1 h)
theorem kept_ge (f : Format) {m c : Nat} {e : Int} (h : vl c (lastOf f m e) ≤ vl m e) : c ≤ keptOf f m e := by
  unfold keptOf
  generalize lastOf f m e = last at h
  by_cases hl : last ≤ e
  · have h0 : (last - e).toNat = 0 := by omega
    rw [h0, cut_zero, Nat.shiftLeft_eq]
    rw [vl_to m hl] at h
    exact vl_le_same.1 h
  · have h0 : (e - last).toNat = 0 := by omega
    rw [h0, Nat.shiftLeft_zero]
    rw [vl_to c (show e ≤ last by omega)] at h
    exact cut_ge false (vl_le_same.1 h)

theorem rle_trans {a b c : Rat} (h : a ≤ b) (k : b ≤ c) : a ≤ c := Rat.le_trans h k
theorem rlt_of_lt_of_le {a b c : Rat} (h : a < b) (k : b ≤ c) : a < c := by grind
theorem rlt_of_le_of_lt {a b c : Rat} (h : a ≤ b) (k : b < c) : a < c := by grind

theorem binade_pos (f : Format) : 0 < f.binade := Nat.two_pow_pos _

/-- ROUNDED DOWNWARDS OF A NUMBER THAT THE FORMAT HAS. -/
theorem nr_le (f : Format) {m c : Nat} {e g : Int} (hg : f.leastPlace ≤ g) (hc : c ≤ 2 * f.binade) (hn : f.binade ≤ c ∨ g = f.leastPlace) (h : vl m e ≤ vl c g) :
    nr f m e ≤ (g - f.leastPlace).toNat * f.binade + c := by
  unfold nr
  by_cases hm : m = 0
  · rw [if_pos hm]; exact Nat.zero_le _
  rw [if_neg hm]
  refine Nat.le_trans (Nat.min_le_left _ _) ?_
  have hlast : lastOf f m e = max (e + m.log2 - f.fractionBits) f.leastPlace := rfl
  have hq := binade_pos f
  have hlog := log_le hm e
  have hlog' := lt_log m e
  have hb2 : 2 * f.binade = 2 ^ (f.fractionBits + 1) := by unfold Format.binade; rw [Nat.pow_succ]; omega
  by_cases h1 : lastOf f m e < g
  · have hk : keptOf f m e ≤ 2 * f.binade := by
      refine kept_le f ?_
      rw [hb2, vl_pow]
      exact rle_trans (Rat.le_of_lt hlog') (vl1_le.2 (by omega))
    have hc' : f.binade ≤ c := by
      rcases hn with hn | hn
      · exact hn
      · omega
    obtain ⟨a, ha⟩ : ∃ a, a = (lastOf f m e - f.leastPlace).toNat := ⟨_, rfl⟩
    obtain ⟨b, hb⟩ : ∃ b, b = (g - f.leastPlace).toNat := ⟨_, rfl⟩
    have hab : a + 1 ≤ b := by omega
    rw [← ha, ← hb]
    have h2 : (a + 1) * f.binade ≤ b * f.binade := Nat.mul_le_mul_right _ hab
    rw [Nat.add_mul] at h2
    omega
  · by_cases h2 : lastOf f m e = g
    · have hk : keptOf f m e ≤ c := kept_le f (by rw [h2]; exact h)
      rw [h2]
      omega
    · have h3 : lastOf f m e = e + m.log2 - f.fractionBits := by omega
      have h4 : vl 1 (lastOf f m e + f.fractionBits) ≤ vl m e := by
        rw [h3]
        exact rle_trans (vl1_le.2 (by omega)) hlog
      have h5 : vl c g ≤ vl 1 (g + f.fractionBits + 1) := by
        have : vl (2 ^ (f.fractionBits + 1)) g = vl 1 (g + f.fractionBits + 1) := by
          rw [vl_pow]; congr 1; omega
        rw [← this, ← hb2]
        exact vl_le_same.2 hc
      have h6 : lastOf f m e + f.fractionBits ≤ g + f.fractionBits + 1 := vl1_le.1 (rle_trans h4 (rle_trans h h5))
      have h7 : lastOf f m e = g + 1 := by omega
      have hk : keptOf f m e ≤ f.binade := by
        refine kept_le f ?_
        unfold Format.binade
        rw [vl_pow, h7]
        refine rle_trans h (rle_trans h5 (vl1_le.2 (by omega)))
      have hc2 : 2 * f.binade ≤ c := by
        have h8 : vl 1 (g + f.fractionBits + 1) ≤ vl c g := rle_trans (vl1_le.2 (by omega)) (rle_trans h4 h)
        have : vl (2 ^ (f.fractionBits + 1)) g = vl 1 (g + f.fractionBits + 1) := by
          rw [vl_pow]; congr 1; omega
        rw [← this, ← hb2] at h8
        exact vl_le_same.1 h8
      obtain ⟨a, ha⟩ : ∃ a, a = (lastOf f m e - f.leastPlace).toNat := ⟨_, rfl⟩
      obtain ⟨b, hb⟩ : ∃ b, b = (g - f.leastPlace).toNat := ⟨_, rfl⟩
      have hab : a = b + 1 := by omega
      rw [← ha, ← hb, hab, Nat.add_mul]
      omega

/-- ROUNDED UPWARDS OF A NUMBER THAT THE FORMAT HAS. -/
theorem nr_ge (f : Format) {m c : Nat} {e g : Int} (hg : f.leastPlace ≤ g) (hc : c ≤ 2 * f.binade) (hn : f.binade ≤ c ∨ g = f.leastPlace) (h : vl c g ≤ vl m e)
    (hR : (g - f.leastPlace).toNat * f.binade + c ≤ f.infRung) : (g - f.leastPlace).toNat * f.binade + c ≤ nr f m e := by
  unfold nr
  have hq := binade_pos f
  by_cases hm : m = 0
  · have h0 : vl c g ≤ vl 0 g := by
      refine rle_trans h ?_
      rw [hm]
      simp [vl]
    have hc0 : c ≤ 0 := vl_le_same.1 h0
    have hg0 : g = f.leastPlace := by rcases hn with hn | hn <;> omega
    rw [hg0]
    simp
    omega
  rw [if_neg hm]
  refine Nat.le_min.2 ⟨?_, hR⟩
  have hlast : lastOf f m e = max (e + m.log2 - f.fractionBits) f.leastPlace := rfl
  have hlog := log_le hm e
  have hlog' := lt_log m e
  by_cases h1 : lastOf f m e < g
  · exfalso
    have hc' : f.binade ≤ c := by
      rcases hn with hn | hn
      · exact hn
      · omega
    have h2 : vl 1 (g + f.fractionBits) ≤ vl c g := by
      rw [← vl_pow]
      exact vl_le_same.2 hc'
    have h3 : g + f.fractionBits < e + m.log2 + 1 := vl1_lt.1 (rlt_of_le_of_lt (rle_trans h2 h) hlog')
    omega
  · by_cases h2 : lastOf f m e = g
    · have hk : c ≤ keptOf f m e := kept_ge f (by rw [h2]; exact h)
      rw [h2]
      omega
    · have h3 : lastOf f m e = e + m.log2 - f.fractionBits := by omega
      have hk : f.binade ≤ keptOf f m e := by
        refine kept_ge f ?_
        unfold Format.binade
        rw [vl_pow, h3]
        exact rle_trans (vl1_le.2 (by omega)) hlog
      obtain ⟨a, ha⟩ : ∃ a, a = (lastOf f m e - f.leastPlace).toNat := ⟨_, rfl⟩
      obtain ⟨b, hb⟩ : ∃ b, b = (g - f.leastPlace).toNat := ⟨_, rfl⟩
      have hab : b + 1 ≤ a := by omega
      rw [← ha, ← hb]
      have h4 : (b + 1) * f.binade ≤ a * f.binade := Nat.mul_le_mul_right _ hab
      rw [Nat.add_mul] at h4
      omega

/-! ### What a rung stands for, and back -/
def mg (f : Format) (r : Nat) : Nat := if r < f.binade then r else f.binade + r % f.binade
def pl (f : Format) (r : Nat) : Int := if r < f.binade then f.leastPlace else f.leastPlace + (r / f.binade - 1 : Nat)
theorem rd_fin (f : Format) (neg : Bool) {r : Nat} (h : r < f.infRung) : rd f neg r = .number neg (mg f r) (pl f r) := by
  unfold rd mg pl
  split
  · rfl
  · rfl
theorem pl_ge (f : Format) (r : Nat) : f.leastPlace ≤ pl f r := by unfold pl; split <;> omega
theorem mg_le (f : Format) (r : Nat) : mg f r ≤ 2 * f.binade := by
  have := Nat.mod_lt r (binade_pos f)
  unfold mg; split <;> omega
theorem mg_norm (f : Format) (r : Nat) : f.binade ≤ mg f r ∨ pl f r = f.leastPlace := by
  unfold mg pl
  split
  · exact .inr rfl
  · exact .inl (by omega)
theorem rung_of (f : Format) (r : Nat) : (pl f r - f.leastPlace).toNat * f.binade + mg f r = r := by
  unfold mg pl
  have hq := binade_pos f
  split
  · simp
  · rename_i h
    have h1 : 1 ≤ r / f.binade := (Nat.le_div_iff_mul_le hq).2 (by omega)
    have h2 := Nat.div_add_mod r f.binade
    obtain ⟨a, ha⟩ : ∃ a, r / f.binade = a + 1 := ⟨r / f.binade - 1, by omega⟩
    have h3 : (f.leastPlace + ((r / f.binade - 1 : Nat) : Int) - f.leastPlace).toNat = a := by omega
    rw [h3]
    rw [ha, Nat.mul_add, Nat.mul_comm] at h2
    omega
/-- A finite rung's value. -/
def rv (f : Format) (r : Nat) : Rat := vl (mg f r) (pl f r)
theorem nr_le_rung (f : Format) {m : Nat} {e : Int} {r : Nat} (h : vl m e ≤ rv f r) : nr f m e ≤ r := by
  have := nr_le f (pl_ge f r) (mg_le f r) (mg_norm f r) h
  rwa [rung_of] at this
theorem nr_ge_rung (f : Format) {m : Nat} {e : Int} {r : Nat} (hr : r ≤ f.infRung) (h : rv f r ≤ vl m e) : r ≤ nr f m e := by
  have := nr_ge f (pl_ge f r) (mg_le f r) (mg_norm f r) h (by rw [rung_of]; exact hr)
  rwa [rung_of] at this
/-- A number that the format has is itself. -/
theorem nr_self (f : Format) {m : Nat} {e : Int} {r : Nat} (hr : r ≤ f.infRung) (h : vl m e = rv f r) : nr f m e = r :=
  Nat.le_antisymm (nr_le_rung f (by rw [h]; exact Rat.le_refl)) (nr_ge_rung f hr (by rw [h]; exact Rat.le_refl))
/-- Values go with rungs. -/
theorem rv_le (f : Format) {r s : Nat} (hs : s ≤ f.infRung) (h : r ≤ s) : rv f r ≤ rv f s := by
  by_cases hh : rv f r ≤ rv f s
  · exact hh
  · have h1 : rv f s ≤ vl (mg f r) (pl f r) := Rat.le_of_lt (Rat.not_le.1 hh)
    have h2 := nr_ge_rung f hs h1
    have h3 := nr_le_rung f (m := mg f r) (e := pl f r) (r := r) Rat.le_refl
    have h4 : r = s := by omega
    rw [h4]
    exact Rat.le_refl
theorem rv_lt (f : Format) {r s : Nat} (hs : s ≤ f.infRung) (h : r < s) : rv f r < rv f s := by
  rw [← Rat.not_le]
  intro hh
  have h2 := nr_ge_rung f hs (m := mg f s) (e := pl f s) (Rat.le_refl)
  have h3 := nr_le_rung f (m := mg f s) (e := pl f s) hh
  omega
end Go.Proofs.Ytokbpcfgeklliaa
