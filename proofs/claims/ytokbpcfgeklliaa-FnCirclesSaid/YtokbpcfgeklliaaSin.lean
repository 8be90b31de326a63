/-
  The sine of a number of turns: both sides, walked, and its bound.
-/
import Derived.Test.YtokbpcfgeklliaaSame3
namespace Go.Proofs.Ytokbpcfgeklliaa
open Go.RowKit
set_option linter.unusedVariables false

def K05 : Nat := 4602678819172646912
def K025 : Nat := 4598175219545276416
def K2pi : Nat := 4618760256179416344
/-- Half a turn is taken away, and what is behind a quarter is turned back. -/
def halfC (f : Nat) : Nat := if geqC f K05 then fo .sub .f64 f K05 else f
def redC (f : Nat) : Nat := if gtrC (halfC f) K025 then fo .sub .f64 K05 (halfC f) else halfC f
/-- The polynomial's rounds. -/
def pS (u : Nat) : Nat → Nat
  | 0 => K1
  | j + 1 => fo .sub .f64 K1 (fo .quo .f64 (fo .mul .f64 u (pS u j)) (floatOfInt .f64 (2 * ((8 - j : Nat) : Int) * (2 * ((8 - j : Nat) : Int) + 1))))
def sinZ (f : Nat) : Nat := fo .mul .f64 (redC f) K2pi
def sinO (f : Nat) : Nat := fo .mul .f64 (sinZ f) (pS (fo .mul .f64 (sinZ f) (sinZ f)) 8)
def sinC (f : Nat) : Nat := if geqC f K05 then negC (sinO f) else sinO f
theorem pS_step (u k : Nat) (h1 : 1 ≤ k) (h2 : k ≤ 8) : pS u (8 - (k - 1)) = fo .sub .f64 K1 (fo .quo .f64 (fo .mul .f64 u (pS u (8 - k))) (floatOfInt .f64 (2 * (k : Int) * (2 * (k : Int) + 1)))) := by
  rw [show 8 - (k - 1) = (8 - k) + 1 by omega]
  show fo .sub .f64 K1 (fo .quo .f64 (fo .mul .f64 u (pS u (8 - k))) (floatOfInt .f64 (2 * ((8 - (8 - k) : Nat) : Int) * (2 * ((8 - (8 - k) : Nat) : Int) + 1)))) = _
  rw [show 8 - (8 - k) = k by omega]
theorem foi_cn (k : FloatKind) (n : Int) : cn k (floatOfInt k n) = floatOfInt k n := cn_of_not (write_notNaN k.format (d := .number (n < 0) n.natAbs 0) rfl)
theorem cnK1 : cn .f64 4607182418800017408 = K1 := by decide +kernel
theorem cnK05 : cn .f64 4602678819172646912 = K05 := by decide +kernel
theorem cnK025 : cn .f64 4598175219545276416 = K025 := by decide +kernel
theorem cnK2pi : cn .f64 4618760256179416344 = K2pi := by decide +kernel
theorem kk_wrap {k : Nat} (h : k ≤ 8) : wrap64 (2 * (k : Int) * (2 * (k : Int) + 1)) = 2 * (k : Int) * (2 * (k : Int) + 1) ∧ IntKind.i64.wrap (2 * (k : Int) * (2 * (k : Int) + 1)) = 2 * (k : Int) * (2 * (k : Int) + 1) := by
  have h1 : 0 ≤ 2 * (k : Int) * (2 * (k : Int) + 1) := Int.mul_nonneg (by omega) (by omega)
  have h2 : 2 * (k : Int) * (2 * (k : Int) + 1) ≤ 16 * 17 := Int.mul_le_mul (by omega) (by omega) (by omega) (by omega)
  exact ⟨IntWalk.wrap64_in _ (by omega), IntWalk.i64_in _ (by omega)⟩

/-! ### The bound -/
theorem bd_const {c : Nat} {j : Int} (h : rg .f64 c ≤ RP j) : Bd c j := h
theorem half_bd {f : Nat} (h : Bd f 1) : Bd (halfC f) 2 := by
  unfold halfC
  split
  · have h2 := Bd_sub (y := K05) h (Bd.mono (i := 0) (by unfold Bd; decide +kernel) (by omega)) (by omega) (by omega)
    exact h2.mono (by omega)
  · exact h.mono (by omega)
theorem red_bd {f : Nat} (h : Bd f 1) : Bd (redC f) 3 := by
  unfold redC
  split
  · have h2 := Bd_sub (x := K05) (Bd.mono (i := 0) (by unfold Bd; decide +kernel) (by omega)) (half_bd h) (by omega) (by omega)
    exact h2.mono (by omega)
  · exact (half_bd h).mono (by omega)
theorem sinZ_bd {f : Nat} (h : Bd f 1) : Bd (sinZ f) 6 := Bd_mul (i := 3) (j := 3) (red_bd h) (by unfold Bd; decide +kernel) (by omega) (by omega) (by omega) (by omega) (by omega) (by omega)
theorem foi_kk (k : Nat) (h1 : 1 ≤ k) (h2 : k ≤ 8) : fin .f64 (floatOfInt .f64 (2 * (k : Int) * (2 * (k : Int) + 1))) = true ∧ RP 2 ≤ rg .f64 (floatOfInt .f64 (2 * (k : Int) * (2 * (k : Int) + 1))) := by
  have hk : k = 1 ∨ k = 2 ∨ k = 3 ∨ k = 4 ∨ k = 5 ∨ k = 6 ∨ k = 7 ∨ k = 8 := by omega
  rcases hk with rfl | rfl | rfl | rfl | rfl | rfl | rfl | rfl <;> exact ⟨by decide +kernel, by decide +kernel⟩
theorem pS_bd {u : Nat} (h : Bd u 12) : ∀ j : Nat, j ≤ 8 → Bd (pS u j) (12 * j)
  | 0, _ => by show Bd K1 0; unfold Bd; decide +kernel
  | j + 1, hj => by
    have ih := pS_bd h j (by omega)
    obtain ⟨a, b⟩ := foi_kk (8 - j) (by omega) (by omega)
    have h1 := Bd_mul (i := 12) (j := 12 * j) h ih (by omega) (by omega) (by omega) (by omega) (by omega) (by omega)
    have h2 := Bd_quo (i := 12 + 12 * j) (j := 2) h1 a b (by omega) (by omega) (by omega) (by omega) (by omega) (by omega)
    have h3 := Bd_sub (j := 12 + 12 * j - 2) (x := K1) (Bd.mono (i := 0) (by unfold Bd; decide +kernel) (by omega)) h2 (by omega) (by omega)
    exact h3.mono (by omega)
theorem sinO_bd {f : Nat} (h : Bd f 1) : Bd (sinO f) 110 := by
  have hz := sinZ_bd h
  have hu := Bd_mul (i := 6) (j := 6) hz hz (by omega) (by omega) (by omega) (by omega) (by omega) (by omega)
  have hp := pS_bd (u := fo .mul .f64 (sinZ f) (sinZ f)) hu 8 (by omega)
  exact (Bd_mul (i := 6) (j := 12 * (8 : Nat)) hz hp (by omega) (by omega) (by omega) (by omega) (by omega) (by omega)).mono (by omega)
theorem sinC_bd {f : Nat} (h : Bd f 1) : Bd (sinC f) 110 := by
  unfold sinC
  split
  · exact Bd_neg (sinO_bd h) (by omega)
  · exact sinO_bd h
theorem frac_Bd {t : Nat} (h : Bd t 52) : Bd (fracC t) 1 := by
  obtain ⟨a, b, c⟩ := frac_bd h
  refine (Bd_of_val (j := 0) a (by omega) (by omega) (by rw [vl_one_zero]; exact c) ?_).mono (by omega)
  rw [vl_one_zero]
  grind

set_option maxHeartbeats 2000000 in
theorem sine_any (t : Nat) (w : World) (h : Bd t 52) :
    Calls Try.prog 30 #[.float .f64 t] w fun e w' => ∃ b n, e = .returned (.float .f64 b) ∧ cn .f64 b = sinC (fracC t) ∧ w' = w.drewN n := by
  obtain ⟨f, hf⟩ : ∃ f, f = fracC t := ⟨_, rfl⟩
  rw [← hf]
  have HF := Lib.hid hf
  clear hf
  cases hT : geqC f K05
  · cases hS : gtrC (halfC f) K025
    · have hh : halfC f = f := by unfold halfC; rw [hT]; rfl
      have hZ : Hid (sinZ f = fo .mul .f64 (f) K2pi) := by show sinZ f = _; unfold sinZ redC; rw [hS, hh]; rfl
      have hC : Hid (sinC f = sinO f) := by show sinC f = _; unfold sinC; rw [hT]; rfl
      rw [hh] at hS
      go_enter Try.func30, Try.ntmps30
      go_wp2_with fail
      refine (fraction_any _ _ h).mono ?_
      rintro e w1 ⟨b, n, rfl, hb, rfl⟩
      rw [← HF.out] at hb
      have t1 : (FloatKind.f64.format.order b 4602678819172646912 == some .gt || FloatKind.f64.format.order b 4602678819172646912 == some .eq) = false := by rw [← order_cn, hb, cnK05]; exact hT
      have t2 : (FloatKind.f64.format.order b 4598175219545276416 == some .gt) = false := by rw [← order_cn, hb, cnK025]; exact hS
      have HB := Lib.hid hb
      clear hb hT hS hh
      go_wp2_with fail
      go_loopw [7, 8] (fun p i wr => ∃ k : Nat, k ≤ 8 ∧ i = .int .i64 k ∧ (∃ pb, p = .float .f64 pb ∧ cn .f64 pb = pS (fo .mul .f64 (sinZ f) (sinZ f)) (8 - k)) ∧ ∃ n, wr = w.drewN n) (fun _ i _ => (intOf i).toNat)
      case atStart => exact ⟨8, Nat.le_refl _, rfl, ⟨_, rfl, cnK1⟩, _, rfl⟩
      case round =>
        obtain ⟨k, hk, rfl, ⟨pb, rfl, hp⟩, n2, hwr⟩ := hrel
        have HPB := Lib.hid hp
        have HW := Lib.hid hwr
        clear hp hwr
        by_cases h1 : 1 ≤ k
        · have HST := Lib.hid (pS_step (fo .mul .f64 (sinZ f) (sinZ f)) k h1 hk)
          obtain ⟨w1, w2⟩ := kk_wrap hk
          go_wp2
          go_roundw
          case rel =>
            refine ⟨k - 1, by omega, by go_num, ⟨_, rfl, ?_⟩, by rw [HW.out]; simp only [World.drewN_drewN]; exact ⟨_, rfl⟩⟩
            simp only [cn_fv, HPB.out, HB.out, foi_cn, cnK1, cnK2pi]
            rw [← hZ.out]
            exact HST.out.symm
          case measure => simp [intOf]; omega
        · obtain rfl : k = 0 := by omega
          go_wp2
          go_ret
          refine ⟨_, _, rfl, ?_, by rw [HW.out]; simp only [World.drewN_drewN]; rfl⟩
          simp only [cn_fv, HPB.out, HB.out, cnK2pi]
          rw [← hZ.out, hC.out]
          rfl
    · have hh : halfC f = f := by unfold halfC; rw [hT]; rfl
      have hZ : Hid (sinZ f = fo .mul .f64 (fo .sub .f64 K05 (f)) K2pi) := by show sinZ f = _; unfold sinZ redC; rw [hS, hh]; rfl
      have hC : Hid (sinC f = sinO f) := by show sinC f = _; unfold sinC; rw [hT]; rfl
      rw [hh] at hS
      go_enter Try.func30, Try.ntmps30
      go_wp2_with fail
      refine (fraction_any _ _ h).mono ?_
      rintro e w1 ⟨b, n, rfl, hb, rfl⟩
      rw [← HF.out] at hb
      have t1 : (FloatKind.f64.format.order b 4602678819172646912 == some .gt || FloatKind.f64.format.order b 4602678819172646912 == some .eq) = false := by rw [← order_cn, hb, cnK05]; exact hT
      have t2 : (FloatKind.f64.format.order b 4598175219545276416 == some .gt) = true := by rw [← order_cn, hb, cnK025]; exact hS
      have HB := Lib.hid hb
      clear hb hT hS hh
      go_wp2_with fail
      go_loopw [7, 8] (fun p i wr => ∃ k : Nat, k ≤ 8 ∧ i = .int .i64 k ∧ (∃ pb, p = .float .f64 pb ∧ cn .f64 pb = pS (fo .mul .f64 (sinZ f) (sinZ f)) (8 - k)) ∧ ∃ n, wr = w.drewN n) (fun _ i _ => (intOf i).toNat)
      case atStart => exact ⟨8, Nat.le_refl _, rfl, ⟨_, rfl, cnK1⟩, _, rfl⟩
      case round =>
        obtain ⟨k, hk, rfl, ⟨pb, rfl, hp⟩, n2, hwr⟩ := hrel
        have HPB := Lib.hid hp
        have HW := Lib.hid hwr
        clear hp hwr
        by_cases h1 : 1 ≤ k
        · have HST := Lib.hid (pS_step (fo .mul .f64 (sinZ f) (sinZ f)) k h1 hk)
          obtain ⟨w1, w2⟩ := kk_wrap hk
          go_wp2
          go_roundw
          case rel =>
            refine ⟨k - 1, by omega, by go_num, ⟨_, rfl, ?_⟩, by rw [HW.out]; simp only [World.drewN_drewN]; exact ⟨_, rfl⟩⟩
            simp only [cn_fv, HPB.out, HB.out, foi_cn, cnK1, cnK2pi, cnK05]
            rw [← hZ.out]
            exact HST.out.symm
          case measure => simp [intOf]; omega
        · obtain rfl : k = 0 := by omega
          go_wp2
          go_ret
          refine ⟨_, _, rfl, ?_, by rw [HW.out]; simp only [World.drewN_drewN]; rfl⟩
          simp only [cn_fv, HPB.out, HB.out, cnK2pi, cnK05]
          rw [← hZ.out, hC.out]
          rfl
  · cases hS : gtrC (halfC f) K025
    · have hh : halfC f = fo .sub .f64 f K05 := by unfold halfC; rw [hT]; rfl
      have hZ : Hid (sinZ f = fo .mul .f64 (fo .sub .f64 f K05) K2pi) := by show sinZ f = _; unfold sinZ redC; rw [hS, hh]; rfl
      have hC : Hid (sinC f = negC (sinO f)) := by show sinC f = _; unfold sinC; rw [hT]; rfl
      rw [hh] at hS
      go_enter Try.func30, Try.ntmps30
      go_wp2_with fail
      refine (fraction_any _ _ h).mono ?_
      rintro e w1 ⟨b, n, rfl, hb, rfl⟩
      rw [← HF.out] at hb
      have t1 : (FloatKind.f64.format.order b 4602678819172646912 == some .gt || FloatKind.f64.format.order b 4602678819172646912 == some .eq) = true := by rw [← order_cn, hb, cnK05]; exact hT
      have t2 : ∀ W : World, (FloatKind.f64.format.order (fv .sub .f64 b 4602678819172646912 W) 4598175219545276416 == some .gt) = false := by intro W; rw [← order_cn, cn_fv, hb, cnK05, cnK025]; exact hS
      have HB := Lib.hid hb
      clear hb hT hS hh
      go_wp2_with fail
      go_loopw [7, 8] (fun p i wr => ∃ k : Nat, k ≤ 8 ∧ i = .int .i64 k ∧ (∃ pb, p = .float .f64 pb ∧ cn .f64 pb = pS (fo .mul .f64 (sinZ f) (sinZ f)) (8 - k)) ∧ ∃ n, wr = w.drewN n) (fun _ i _ => (intOf i).toNat)
      case atStart => exact ⟨8, Nat.le_refl _, rfl, ⟨_, rfl, cnK1⟩, _, rfl⟩
      case round =>
        obtain ⟨k, hk, rfl, ⟨pb, rfl, hp⟩, n2, hwr⟩ := hrel
        have HPB := Lib.hid hp
        have HW := Lib.hid hwr
        clear hp hwr
        by_cases h1 : 1 ≤ k
        · have HST := Lib.hid (pS_step (fo .mul .f64 (sinZ f) (sinZ f)) k h1 hk)
          obtain ⟨w1, w2⟩ := kk_wrap hk
          go_wp2
          go_roundw
          case rel =>
            refine ⟨k - 1, by omega, by go_num, ⟨_, rfl, ?_⟩, by rw [HW.out]; simp only [World.drewN_drewN]; exact ⟨_, rfl⟩⟩
            simp only [cn_fv, HPB.out, HB.out, foi_cn, cnK1, cnK2pi, cnK05]
            rw [← hZ.out]
            exact HST.out.symm
          case measure => simp [intOf]; omega
        · obtain rfl : k = 0 := by omega
          go_wp2
          go_ret
          refine ⟨_, _, rfl, ?_, by rw [HW.out]; simp only [World.drewN_drewN]; rfl⟩
          simp only [cn_fv, cn_neg, HPB.out, HB.out, cnK2pi, cnK05]
          rw [← hZ.out, hC.out]
          rfl
    · have hh : halfC f = fo .sub .f64 f K05 := by unfold halfC; rw [hT]; rfl
      have hZ : Hid (sinZ f = fo .mul .f64 (fo .sub .f64 K05 (fo .sub .f64 f K05)) K2pi) := by show sinZ f = _; unfold sinZ redC; rw [hS, hh]; rfl
      have hC : Hid (sinC f = negC (sinO f)) := by show sinC f = _; unfold sinC; rw [hT]; rfl
      rw [hh] at hS
      go_enter Try.func30, Try.ntmps30
      go_wp2_with fail
      refine (fraction_any _ _ h).mono ?_
      rintro e w1 ⟨b, n, rfl, hb, rfl⟩
      rw [← HF.out] at hb
      have t1 : (FloatKind.f64.format.order b 4602678819172646912 == some .gt || FloatKind.f64.format.order b 4602678819172646912 == some .eq) = true := by rw [← order_cn, hb, cnK05]; exact hT
      have t2 : ∀ W : World, (FloatKind.f64.format.order (fv .sub .f64 b 4602678819172646912 W) 4598175219545276416 == some .gt) = true := by intro W; rw [← order_cn, cn_fv, hb, cnK05, cnK025]; exact hS
      have HB := Lib.hid hb
      clear hb hT hS hh
      go_wp2_with fail
      go_loopw [7, 8] (fun p i wr => ∃ k : Nat, k ≤ 8 ∧ i = .int .i64 k ∧ (∃ pb, p = .float .f64 pb ∧ cn .f64 pb = pS (fo .mul .f64 (sinZ f) (sinZ f)) (8 - k)) ∧ ∃ n, wr = w.drewN n) (fun _ i _ => (intOf i).toNat)
      case atStart => exact ⟨8, Nat.le_refl _, rfl, ⟨_, rfl, cnK1⟩, _, rfl⟩
      case round =>
        obtain ⟨k, hk, rfl, ⟨pb, rfl, hp⟩, n2, hwr⟩ := hrel
        have HPB := Lib.hid hp
        have HW := Lib.hid hwr
        clear hp hwr
        by_cases h1 : 1 ≤ k
        · have HST := Lib.hid (pS_step (fo .mul .f64 (sinZ f) (sinZ f)) k h1 hk)
          obtain ⟨w1, w2⟩ := kk_wrap hk
          go_wp2
          go_roundw
          case rel =>
            refine ⟨k - 1, by omega, by go_num, ⟨_, rfl, ?_⟩, by rw [HW.out]; simp only [World.drewN_drewN]; exact ⟨_, rfl⟩⟩
            simp only [cn_fv, HPB.out, HB.out, foi_cn, cnK1, cnK2pi, cnK05]
            rw [← hZ.out]
            exact HST.out.symm
          case measure => simp [intOf]; omega
        · obtain rfl : k = 0 := by omega
          go_wp2
          go_ret
          refine ⟨_, _, rfl, ?_, by rw [HW.out]; simp only [World.drewN_drewN]; rfl⟩
          simp only [cn_fv, cn_neg, HPB.out, HB.out, cnK2pi, cnK05]
          rw [← hZ.out, hC.out]
          rfl
end Go.Proofs.Ytokbpcfgeklliaa
