/-
  The sine of a number of turns, as the reference reckons it.
-/
import Derived.Test.YtokbpcfgeklliaaSin
namespace Go.Proofs.Ytokbpcfgeklliaa
open Go.RowKit
set_option linter.unusedVariables false

def K52 : Nat := 4841369599423283200
def N52 : Nat := 14064741636278059008
def leqC (x y : Nat) : Bool := FloatKind.f64.format.order x y == some .lt || FloatKind.f64.format.order x y == some .eq
theorem neq_self {y : Nat} (h : fin .f64 y = true) (u : World) : (FloatKind.f64.format.order (fv .sub .f64 y y u) 0 != some .eq) = false := by
  have := sub_self .f64 y u
  rw [h] at this
  simpa using this

set_option maxHeartbeats 4000000 in
theorem sineWide_any (y : Nat) (w : World) (h : Bd y 52) (hg : geqC y K52 = false) (hl : leqC y N52 = false) :
    Calls Try.prog 44 #[.float .f64 y] w fun e w' => ∃ b n, e = .returned (.float .f64 b) ∧ cn .f64 b = sinC (fracC y) ∧ w' = w.drewN n := by
  have hfin := h.fin (by omega)
  have s0 := neq_self hfin
  have s1 : (FloatKind.f64.format.order y 4841369599423283200 == some .gt || FloatKind.f64.format.order y 4841369599423283200 == some .eq) = false := hg
  have s2 : (FloatKind.f64.format.order y 14064741636278059008 == some .lt || FloatKind.f64.format.order y 14064741636278059008 == some .eq) = false := hl
  have hconv := fun u : World => run_convert_float_int (P := Try.prog) u 25 2 .f64 .i64 y (wholeI y) (by rw [Try.underlying25]; rfl) Try.underlying2 (floatToInt_whole h)
  have HN : Hid (cn .f64 y = y) := cn_of_not (isN_of_fin hfin)
  have hfr : fracC y = if lssC (fo .sub .f64 y (floatOfInt .f64 (wholeI y))) 0 then fo .add .f64 (fo .sub .f64 y (floatOfInt .f64 (wholeI y))) K1 else fo .sub .f64 y (floatOfInt .f64 (wholeI y)) := rfl
  obtain ⟨f, hf⟩ : ∃ f, f = fracC y := ⟨_, rfl⟩
  rw [← hf] at hfr ⊢
  clear hf hg hl hfin
  generalize wholeI y = N at *
  cases hD : lssC (fo .sub .f64 y (floatOfInt .f64 N)) 0
  · have hE : f = fo .sub .f64 y (floatOfInt .f64 N) := by rw [hfr, hD]; rfl
    have t0 : ∀ W1 : World, (FloatKind.f64.format.order (fv .sub .f64 y (floatOfInt .f64 N) W1) 0 == some .lt) = false := by
      intro W1
      rw [← order_cn, cn_fv, HN.out, foi_cn]
      exact hD
    clear hfr hD
    cases hT : geqC f K05
    · cases hS : gtrC (halfC f) K025
      · have hh : halfC f = fo .sub .f64 y (floatOfInt .f64 N) := by unfold halfC; rw [hT, hE]; rfl
        have hZ : Hid (sinZ f = fo .mul .f64 (fo .sub .f64 y (floatOfInt .f64 N)) K2pi) := by show sinZ f = _; unfold sinZ redC; rw [hS, hh]; rfl
        have hC : Hid (sinC f = sinO f) := by show sinC f = _; unfold sinC; rw [hT]; rfl
        rw [hh] at hS
        rw [hE] at hT
        have t1 : ∀ W1 : World, (FloatKind.f64.format.order (fv .sub .f64 y (floatOfInt .f64 N) W1) 4602678819172646912 == some .gt || FloatKind.f64.format.order (fv .sub .f64 y (floatOfInt .f64 N) W1) 4602678819172646912 == some .eq) = false := by
          intro W1
          rw [← order_cn, cn_fv, HN.out, foi_cn, cnK05]
          exact hT
        have t2 : ∀ W1 : World, (FloatKind.f64.format.order (fv .sub .f64 y (floatOfInt .f64 N) W1) 4598175219545276416 == some .gt) = false := by
          intro W1
          rw [← order_cn, cn_fv, HN.out, foi_cn, cnK025]
          exact hS
        clear hT hS hh hE
        go_enter Try.func44, Try.ntmps44
        go_wp2_with fail
        go_loopw [7, 8] (fun p i wr => ∃ k : Nat, k ≤ 8 ∧ i = .int .i64 k ∧ (∃ pb, p = .float .f64 pb ∧ cn .f64 pb = pS (fo .mul .f64 (sinZ f) (sinZ f)) (8 - k)) ∧ ∃ n, wr = w.drewN n) (fun _ i _ => (intOf i).toNat)
        case atStart => exact ⟨8, Nat.le_refl _, rfl, ⟨_, rfl, cnK1⟩, _, rfl⟩
        case round =>
          obtain ⟨k, hk, rfl, ⟨pb, rfl, hp⟩, n2, hwr⟩ := hrel
          have HPB := Lib.hid hp
          have HW := Lib.hid hwr
          clear hp hwr
          by_cases h1 : 1 ≤ k
          · have HST := Lib.hid (pS_step (fo .mul .f64 (sinZ f) (sinZ f)) k h1 hk)
            obtain ⟨w1, w2⟩ := kk_wrap hk
            go_wp2
            go_roundw
            case rel =>
              refine ⟨k - 1, by omega, by go_num, ⟨_, rfl, ?_⟩, by rw [HW.out]; simp only [World.drewN_drewN]; exact ⟨_, rfl⟩⟩
              simp only [cn_fv, HPB.out, HN.out, foi_cn, cnK1, cnK2pi]
              rw [← hZ.out]
              exact HST.out.symm
            case measure => simp [intOf]; omega
          · obtain rfl : k = 0 := by omega
            go_wp2
            go_ret
            refine ⟨_, _, rfl, ?_, by rw [HW.out]; simp only [World.drewN_drewN]; rfl⟩
            simp only [cn_fv, HPB.out, HN.out, foi_cn, cnK2pi]
            rw [← hZ.out, hC.out]
            rfl
      · have hh : halfC f = fo .sub .f64 y (floatOfInt .f64 N) := by unfold halfC; rw [hT, hE]; rfl
        have hZ : Hid (sinZ f = fo .mul .f64 (fo .sub .f64 K05 (fo .sub .f64 y (floatOfInt .f64 N))) K2pi) := by show sinZ f = _; unfold sinZ redC; rw [hS, hh]; rfl
        have hC : Hid (sinC f = sinO f) := by show sinC f = _; unfold sinC; rw [hT]; rfl
        rw [hh] at hS
        rw [hE] at hT
        have t1 : ∀ W1 : World, (FloatKind.f64.format.order (fv .sub .f64 y (floatOfInt .f64 N) W1) 4602678819172646912 == some .gt || FloatKind.f64.format.order (fv .sub .f64 y (floatOfInt .f64 N) W1) 4602678819172646912 == some .eq) = false := by
          intro W1
          rw [← order_cn, cn_fv, HN.out, foi_cn, cnK05]
          exact hT
        have t2 : ∀ W1 : World, (FloatKind.f64.format.order (fv .sub .f64 y (floatOfInt .f64 N) W1) 4598175219545276416 == some .gt) = true := by
          intro W1
          rw [← order_cn, cn_fv, HN.out, foi_cn, cnK025]
          exact hS
        clear hT hS hh hE
        go_enter Try.func44, Try.ntmps44
        go_wp2_with fail
        go_loopw [7, 8] (fun p i wr => ∃ k : Nat, k ≤ 8 ∧ i = .int .i64 k ∧ (∃ pb, p = .float .f64 pb ∧ cn .f64 pb = pS (fo .mul .f64 (sinZ f) (sinZ f)) (8 - k)) ∧ ∃ n, wr = w.drewN n) (fun _ i _ => (intOf i).toNat)
        case atStart => exact ⟨8, Nat.le_refl _, rfl, ⟨_, rfl, cnK1⟩, _, rfl⟩
        case round =>
          obtain ⟨k, hk, rfl, ⟨pb, rfl, hp⟩, n2, hwr⟩ := hrel
          have HPB := Lib.hid hp
          have HW := Lib.hid hwr
          clear hp hwr
          by_cases h1 : 1 ≤ k
          · have HST := Lib.hid (pS_step (fo .mul .f64 (sinZ f) (sinZ f)) k h1 hk)
            obtain ⟨w1, w2⟩ := kk_wrap hk
            go_wp2
            go_roundw
            case rel =>
              refine ⟨k - 1, by omega, by go_num, ⟨_, rfl, ?_⟩, by rw [HW.out]; simp only [World.drewN_drewN]; exact ⟨_, rfl⟩⟩
              simp only [cn_fv, HPB.out, HN.out, foi_cn, cnK1, cnK2pi, cnK05]
              rw [← hZ.out]
              exact HST.out.symm
            case measure => simp [intOf]; omega
          · obtain rfl : k = 0 := by omega
            go_wp2
            go_ret
            refine ⟨_, _, rfl, ?_, by rw [HW.out]; simp only [World.drewN_drewN]; rfl⟩
            simp only [cn_fv, HPB.out, HN.out, foi_cn, cnK2pi, cnK05]
            rw [← hZ.out, hC.out]
            rfl
    · cases hS : gtrC (halfC f) K025
      · have hh : halfC f = fo .sub .f64 (fo .sub .f64 y (floatOfInt .f64 N)) K05 := by unfold halfC; rw [hT, hE]; rfl
        have hZ : Hid (sinZ f = fo .mul .f64 (fo .sub .f64 (fo .sub .f64 y (floatOfInt .f64 N)) K05) K2pi) := by show sinZ f = _; unfold sinZ redC; rw [hS, hh]; rfl
        have hC : Hid (sinC f = negC (sinO f)) := by show sinC f = _; unfold sinC; rw [hT]; rfl
        rw [hh] at hS
        rw [hE] at hT
        have t1 : ∀ W1 : World, (FloatKind.f64.format.order (fv .sub .f64 y (floatOfInt .f64 N) W1) 4602678819172646912 == some .gt || FloatKind.f64.format.order (fv .sub .f64 y (floatOfInt .f64 N) W1) 4602678819172646912 == some .eq) = true := by
          intro W1
          rw [← order_cn, cn_fv, HN.out, foi_cn, cnK05]
          exact hT
        have t2 : ∀ W1 W3 : World, (FloatKind.f64.format.order (fv .sub .f64 (fv .sub .f64 y (floatOfInt .f64 N) W1) 4602678819172646912 W3) 4598175219545276416 == some .gt) = false := by
          intro W1 W3
          rw [← order_cn, cn_fv, cn_fv, HN.out, foi_cn, cnK05, cnK025]
          exact hS
        clear hT hS hh hE
        go_enter Try.func44, Try.ntmps44
        go_wp2_with fail
        go_loopw [7, 8] (fun p i wr => ∃ k : Nat, k ≤ 8 ∧ i = .int .i64 k ∧ (∃ pb, p = .float .f64 pb ∧ cn .f64 pb = pS (fo .mul .f64 (sinZ f) (sinZ f)) (8 - k)) ∧ ∃ n, wr = w.drewN n) (fun _ i _ => (intOf i).toNat)
        case atStart => exact ⟨8, Nat.le_refl _, rfl, ⟨_, rfl, cnK1⟩, _, rfl⟩
        case round =>
          obtain ⟨k, hk, rfl, ⟨pb, rfl, hp⟩, n2, hwr⟩ := hrel
          have HPB := Lib.hid hp
          have HW := Lib.hid hwr
          clear hp hwr
          by_cases h1 : 1 ≤ k
          · have HST := Lib.hid (pS_step (fo .mul .f64 (sinZ f) (sinZ f)) k h1 hk)
            obtain ⟨w1, w2⟩ := kk_wrap hk
            go_wp2
            go_roundw
            case rel =>
              refine ⟨k - 1, by omega, by go_num, ⟨_, rfl, ?_⟩, by rw [HW.out]; simp only [World.drewN_drewN]; exact ⟨_, rfl⟩⟩
              simp only [cn_fv, HPB.out, HN.out, foi_cn, cnK1, cnK2pi, cnK05]
              rw [← hZ.out]
              exact HST.out.symm
            case measure => simp [intOf]; omega
          · obtain rfl : k = 0 := by omega
            go_wp2
            go_ret
            refine ⟨_, _, rfl, ?_, by rw [HW.out]; simp only [World.drewN_drewN]; rfl⟩
            simp only [cn_fv, cn_neg, HPB.out, HN.out, foi_cn, cnK2pi, cnK05]
            rw [← hZ.out, hC.out]
            rfl
      · have hh : halfC f = fo .sub .f64 (fo .sub .f64 y (floatOfInt .f64 N)) K05 := by unfold halfC; rw [hT, hE]; rfl
        have hZ : Hid (sinZ f = fo .mul .f64 (fo .sub .f64 K05 (fo .sub .f64 (fo .sub .f64 y (floatOfInt .f64 N)) K05)) K2pi) := by show sinZ f = _; unfold sinZ redC; rw [hS, hh]; rfl
        have hC : Hid (sinC f = negC (sinO f)) := by show sinC f = _; unfold sinC; rw [hT]; rfl
        rw [hh] at hS
        rw [hE] at hT
        have t1 : ∀ W1 : World, (FloatKind.f64.format.order (fv .sub .f64 y (floatOfInt .f64 N) W1) 4602678819172646912 == some .gt || FloatKind.f64.format.order (fv .sub .f64 y (floatOfInt .f64 N) W1) 4602678819172646912 == some .eq) = true := by
          intro W1
          rw [← order_cn, cn_fv, HN.out, foi_cn, cnK05]
          exact hT
        have t2 : ∀ W1 W3 : World, (FloatKind.f64.format.order (fv .sub .f64 (fv .sub .f64 y (floatOfInt .f64 N) W1) 4602678819172646912 W3) 4598175219545276416 == some .gt) = true := by
          intro W1 W3
          rw [← order_cn, cn_fv, cn_fv, HN.out, foi_cn, cnK05, cnK025]
          exact hS
        clear hT hS hh hE
        go_enter Try.func44, Try.ntmps44
        go_wp2_with fail
        go_loopw [7, 8] (fun p i wr => ∃ k : Nat, k ≤ 8 ∧ i = .int .i64 k ∧ (∃ pb, p = .float .f64 pb ∧ cn .f64 pb = pS (fo .mul .f64 (sinZ f) (sinZ f)) (8 - k)) ∧ ∃ n, wr = w.drewN n) (fun _ i _ => (intOf i).toNat)
        case atStart => exact ⟨8, Nat.le_refl _, rfl, ⟨_, rfl, cnK1⟩, _, rfl⟩
        case round =>
          obtain ⟨k, hk, rfl, ⟨pb, rfl, hp⟩, n2, hwr⟩ := hrel
          have HPB := Lib.hid hp
          have HW := Lib.hid hwr
          clear hp hwr
          by_cases h1 : 1 ≤ k
          · have HST := Lib.hid (pS_step (fo .mul .f64 (sinZ f) (sinZ f)) k h1 hk)
            obtain ⟨w1, w2⟩ := kk_wrap hk
            go_wp2
            go_roundw
            case rel =>
              refine ⟨k - 1, by omega, by go_num, ⟨_, rfl, ?_⟩, by rw [HW.out]; simp only [World.drewN_drewN]; exact ⟨_, rfl⟩⟩
              simp only [cn_fv, HPB.out, HN.out, foi_cn, cnK1, cnK2pi, cnK05]
              rw [← hZ.out]
              exact HST.out.symm
            case measure => simp [intOf]; omega
          · obtain rfl : k = 0 := by omega
            go_wp2
            go_ret
            refine ⟨_, _, rfl, ?_, by rw [HW.out]; simp only [World.drewN_drewN]; rfl⟩
            simp only [cn_fv, cn_neg, HPB.out, HN.out, foi_cn, cnK2pi, cnK05]
            rw [← hZ.out, hC.out]
            rfl
  · have hE : f = fo .add .f64 (fo .sub .f64 y (floatOfInt .f64 N)) K1 := by rw [hfr, hD]; rfl
    have t0 : ∀ W1 : World, (FloatKind.f64.format.order (fv .sub .f64 y (floatOfInt .f64 N) W1) 0 == some .lt) = true := by
      intro W1
      rw [← order_cn, cn_fv, HN.out, foi_cn]
      exact hD
    clear hfr hD
    cases hT : geqC f K05
    · cases hS : gtrC (halfC f) K025
      · have hh : halfC f = fo .add .f64 (fo .sub .f64 y (floatOfInt .f64 N)) K1 := by unfold halfC; rw [hT, hE]; rfl
        have hZ : Hid (sinZ f = fo .mul .f64 (fo .add .f64 (fo .sub .f64 y (floatOfInt .f64 N)) K1) K2pi) := by show sinZ f = _; unfold sinZ redC; rw [hS, hh]; rfl
        have hC : Hid (sinC f = sinO f) := by show sinC f = _; unfold sinC; rw [hT]; rfl
        rw [hh] at hS
        rw [hE] at hT
        have t1 : ∀ W1 W2 : World, (FloatKind.f64.format.order (fv .add .f64 (fv .sub .f64 y (floatOfInt .f64 N) W1) 4607182418800017408 W2) 4602678819172646912 == some .gt || FloatKind.f64.format.order (fv .add .f64 (fv .sub .f64 y (floatOfInt .f64 N) W1) 4607182418800017408 W2) 4602678819172646912 == some .eq) = false := by
          intro W1 W2
          rw [← order_cn, cn_fv, cn_fv, HN.out, foi_cn, cnK1, cnK05]
          exact hT
        have t2 : ∀ W1 W2 : World, (FloatKind.f64.format.order (fv .add .f64 (fv .sub .f64 y (floatOfInt .f64 N) W1) 4607182418800017408 W2) 4598175219545276416 == some .gt) = false := by
          intro W1 W2
          rw [← order_cn, cn_fv, cn_fv, HN.out, foi_cn, cnK1, cnK025]
          exact hS
        clear hT hS hh hE
        go_enter Try.func44, Try.ntmps44
        go_wp2_with fail
        go_loopw [7, 8] (fun p i wr => ∃ k : Nat, k ≤ 8 ∧ i = .int .i64 k ∧ (∃ pb, p = .float .f64 pb ∧ cn .f64 pb = pS (fo .mul .f64 (sinZ f) (sinZ f)) (8 - k)) ∧ ∃ n, wr = w.drewN n) (fun _ i _ => (intOf i).toNat)
        case atStart => exact ⟨8, Nat.le_refl _, rfl, ⟨_, rfl, cnK1⟩, _, rfl⟩
        case round =>
          obtain ⟨k, hk, rfl, ⟨pb, rfl, hp⟩, n2, hwr⟩ := hrel
          have HPB := Lib.hid hp
          have HW := Lib.hid hwr
          clear hp hwr
          by_cases h1 : 1 ≤ k
          · have HST := Lib.hid (pS_step (fo .mul .f64 (sinZ f) (sinZ f)) k h1 hk)
            obtain ⟨w1, w2⟩ := kk_wrap hk
            go_wp2
            go_roundw
            case rel =>
              refine ⟨k - 1, by omega, by go_num, ⟨_, rfl, ?_⟩, by rw [HW.out]; simp only [World.drewN_drewN]; exact ⟨_, rfl⟩⟩
              simp only [cn_fv, HPB.out, HN.out, foi_cn, cnK1, cnK2pi]
              rw [← hZ.out]
              exact HST.out.symm
            case measure => simp [intOf]; omega
          · obtain rfl : k = 0 := by omega
            go_wp2
            go_ret
            refine ⟨_, _, rfl, ?_, by rw [HW.out]; simp only [World.drewN_drewN]; rfl⟩
            simp only [cn_fv, HPB.out, HN.out, foi_cn, cnK1, cnK2pi]
            rw [← hZ.out, hC.out]
            rfl
      · have hh : halfC f = fo .add .f64 (fo .sub .f64 y (floatOfInt .f64 N)) K1 := by unfold halfC; rw [hT, hE]; rfl
        have hZ : Hid (sinZ f = fo .mul .f64 (fo .sub .f64 K05 (fo .add .f64 (fo .sub .f64 y (floatOfInt .f64 N)) K1)) K2pi) := by show sinZ f = _; unfold sinZ redC; rw [hS, hh]; rfl
        have hC : Hid (sinC f = sinO f) := by show sinC f = _; unfold sinC; rw [hT]; rfl
        rw [hh] at hS
        rw [hE] at hT
        have t1 : ∀ W1 W2 : World, (FloatKind.f64.format.order (fv .add .f64 (fv .sub .f64 y (floatOfInt .f64 N) W1) 4607182418800017408 W2) 4602678819172646912 == some .gt || FloatKind.f64.format.order (fv .add .f64 (fv .sub .f64 y (floatOfInt .f64 N) W1) 4607182418800017408 W2) 4602678819172646912 == some .eq) = false := by
          intro W1 W2
          rw [← order_cn, cn_fv, cn_fv, HN.out, foi_cn, cnK1, cnK05]
          exact hT
        have t2 : ∀ W1 W2 : World, (FloatKind.f64.format.order (fv .add .f64 (fv .sub .f64 y (floatOfInt .f64 N) W1) 4607182418800017408 W2) 4598175219545276416 == some .gt) = true := by
          intro W1 W2
          rw [← order_cn, cn_fv, cn_fv, HN.out, foi_cn, cnK1, cnK025]
          exact hS
        clear hT hS hh hE
        go_enter Try.func44, Try.ntmps44
        go_wp2_with fail
        go_loopw [7, 8] (fun p i wr => ∃ k : Nat, k ≤ 8 ∧ i = .int .i64 k ∧ (∃ pb, p = .float .f64 pb ∧ cn .f64 pb = pS (fo .mul .f64 (sinZ f) (sinZ f)) (8 - k)) ∧ ∃ n, wr = w.drewN n) (fun _ i _ => (intOf i).toNat)
        case atStart => exact ⟨8, Nat.le_refl _, rfl, ⟨_, rfl, cnK1⟩, _, rfl⟩
        case round =>
          obtain ⟨k, hk, rfl, ⟨pb, rfl, hp⟩, n2, hwr⟩ := hrel
          have HPB := Lib.hid hp
          have HW := Lib.hid hwr
          clear hp hwr
          by_cases h1 : 1 ≤ k
          · have HST := Lib.hid (pS_step (fo .mul .f64 (sinZ f) (sinZ f)) k h1 hk)
            obtain ⟨w1, w2⟩ := kk_wrap hk
            go_wp2
            go_roundw
            case rel =>
              refine ⟨k - 1, by omega, by go_num, ⟨_, rfl, ?_⟩, by rw [HW.out]; simp only [World.drewN_drewN]; exact ⟨_, rfl⟩⟩
              simp only [cn_fv, HPB.out, HN.out, foi_cn, cnK1, cnK2pi, cnK05]
              rw [← hZ.out]
              exact HST.out.symm
            case measure => simp [intOf]; omega
          · obtain rfl : k = 0 := by omega
            go_wp2
            go_ret
            refine ⟨_, _, rfl, ?_, by rw [HW.out]; simp only [World.drewN_drewN]; rfl⟩
            simp only [cn_fv, HPB.out, HN.out, foi_cn, cnK1, cnK2pi, cnK05]
            rw [← hZ.out, hC.out]
            rfl
    · cases hS : gtrC (halfC f) K025
      · have hh : halfC f = fo .sub .f64 (fo .add .f64 (fo .sub .f64 y (floatOfInt .f64 N)) K1) K05 := by unfold halfC; rw [hT, hE]; rfl
        have hZ : Hid (sinZ f = fo .mul .f64 (fo .sub .f64 (fo .add .f64 (fo .sub .f64 y (floatOfInt .f64 N)) K1) K05) K2pi) := by show sinZ f = _; unfold sinZ redC; rw [hS, hh]; rfl
        have hC : Hid (sinC f = negC (sinO f)) := by show sinC f = _; unfold sinC; rw [hT]; rfl
        rw [hh] at hS
        rw [hE] at hT
        have t1 : ∀ W1 W2 : World, (FloatKind.f64.format.order (fv .add .f64 (fv .sub .f64 y (floatOfInt .f64 N) W1) 4607182418800017408 W2) 4602678819172646912 == some .gt || FloatKind.f64.format.order (fv .add .f64 (fv .sub .f64 y (floatOfInt .f64 N) W1) 4607182418800017408 W2) 4602678819172646912 == some .eq) = true := by
          intro W1 W2
          rw [← order_cn, cn_fv, cn_fv, HN.out, foi_cn, cnK1, cnK05]
          exact hT
        have t2 : ∀ W1 W2 W3 : World, (FloatKind.f64.format.order (fv .sub .f64 (fv .add .f64 (fv .sub .f64 y (floatOfInt .f64 N) W1) 4607182418800017408 W2) 4602678819172646912 W3) 4598175219545276416 == some .gt) = false := by
          intro W1 W2 W3
          rw [← order_cn, cn_fv, cn_fv, cn_fv, HN.out, foi_cn, cnK1, cnK05, cnK025]
          exact hS
        clear hT hS hh hE
        go_enter Try.func44, Try.ntmps44
        go_wp2_with fail
        go_loopw [7, 8] (fun p i wr => ∃ k : Nat, k ≤ 8 ∧ i = .int .i64 k ∧ (∃ pb, p = .float .f64 pb ∧ cn .f64 pb = pS (fo .mul .f64 (sinZ f) (sinZ f)) (8 - k)) ∧ ∃ n, wr = w.drewN n) (fun _ i _ => (intOf i).toNat)
        case atStart => exact ⟨8, Nat.le_refl _, rfl, ⟨_, rfl, cnK1⟩, _, rfl⟩
        case round =>
          obtain ⟨k, hk, rfl, ⟨pb, rfl, hp⟩, n2, hwr⟩ := hrel
          have HPB := Lib.hid hp
          have HW := Lib.hid hwr
          clear hp hwr
          by_cases h1 : 1 ≤ k
          · have HST := Lib.hid (pS_step (fo .mul .f64 (sinZ f) (sinZ f)) k h1 hk)
            obtain ⟨w1, w2⟩ := kk_wrap hk
            go_wp2
            go_roundw
            case rel =>
              refine ⟨k - 1, by omega, by go_num, ⟨_, rfl, ?_⟩, by rw [HW.out]; simp only [World.drewN_drewN]; exact ⟨_, rfl⟩⟩
              simp only [cn_fv, HPB.out, HN.out, foi_cn, cnK1, cnK2pi, cnK05]
              rw [← hZ.out]
              exact HST.out.symm
            case measure => simp [intOf]; omega
          · obtain rfl : k = 0 := by omega
            go_wp2
            go_ret
            refine ⟨_, _, rfl, ?_, by rw [HW.out]; simp only [World.drewN_drewN]; rfl⟩
            simp only [cn_fv, cn_neg, HPB.out, HN.out, foi_cn, cnK1, cnK2pi, cnK05]
            rw [← hZ.out, hC.out]
            rfl
      · have hh : halfC f = fo .sub .f64 (fo .add .f64 (fo .sub .f64 y (floatOfInt .f64 N)) K1) K05 := by unfold halfC; rw [hT, hE]; rfl
        have hZ : Hid (sinZ f = fo .mul .f64 (fo .sub .f64 K05 (fo .sub .f64 (fo .add .f64 (fo .sub .f64 y (floatOfInt .f64 N)) K1) K05)) K2pi) := by show sinZ f = _; unfold sinZ redC; rw [hS, hh]; rfl
        have hC : Hid (sinC f = negC (sinO f)) := by show sinC f = _; unfold sinC; rw [hT]; rfl
        rw [hh] at hS
        rw [hE] at hT
        have t1 : ∀ W1 W2 : World, (FloatKind.f64.format.order (fv .add .f64 (fv .sub .f64 y (floatOfInt .f64 N) W1) 4607182418800017408 W2) 4602678819172646912 == some .gt || FloatKind.f64.format.order (fv .add .f64 (fv .sub .f64 y (floatOfInt .f64 N) W1) 4607182418800017408 W2) 4602678819172646912 == some .eq) = true := by
          intro W1 W2
          rw [← order_cn, cn_fv, cn_fv, HN.out, foi_cn, cnK1, cnK05]
          exact hT
        have t2 : ∀ W1 W2 W3 : World, (FloatKind.f64.format.order (fv .sub .f64 (fv .add .f64 (fv .sub .f64 y (floatOfInt .f64 N) W1) 4607182418800017408 W2) 4602678819172646912 W3) 4598175219545276416 == some .gt) = true := by
          intro W1 W2 W3
          rw [← order_cn, cn_fv, cn_fv, cn_fv, HN.out, foi_cn, cnK1, cnK05, cnK025]
          exact hS
        clear hT hS hh hE
        go_enter Try.func44, Try.ntmps44
        go_wp2_with fail
        go_loopw [7, 8] (fun p i wr => ∃ k : Nat, k ≤ 8 ∧ i = .int .i64 k ∧ (∃ pb, p = .float .f64 pb ∧ cn .f64 pb = pS (fo .mul .f64 (sinZ f) (sinZ f)) (8 - k)) ∧ ∃ n, wr = w.drewN n) (fun _ i _ => (intOf i).toNat)
        case atStart => exact ⟨8, Nat.le_refl _, rfl, ⟨_, rfl, cnK1⟩, _, rfl⟩
        case round =>
          obtain ⟨k, hk, rfl, ⟨pb, rfl, hp⟩, n2, hwr⟩ := hrel
          have HPB := Lib.hid hp
          have HW := Lib.hid hwr
          clear hp hwr
          by_cases h1 : 1 ≤ k
          · have HST := Lib.hid (pS_step (fo .mul .f64 (sinZ f) (sinZ f)) k h1 hk)
            obtain ⟨w1, w2⟩ := kk_wrap hk
            go_wp2
            go_roundw
            case rel =>
              refine ⟨k - 1, by omega, by go_num, ⟨_, rfl, ?_⟩, by rw [HW.out]; simp only [World.drewN_drewN]; exact ⟨_, rfl⟩⟩
              simp only [cn_fv, HPB.out, HN.out, foi_cn, cnK1, cnK2pi, cnK05]
              rw [← hZ.out]
              exact HST.out.symm
            case measure => simp [intOf]; omega
          · obtain rfl : k = 0 := by omega
            go_wp2
            go_ret
            refine ⟨_, _, rfl, ?_, by rw [HW.out]; simp only [World.drewN_drewN]; rfl⟩
            simp only [cn_fv, cn_neg, HPB.out, HN.out, foi_cn, cnK1, cnK2pi, cnK05]
            rw [← hZ.out, hC.out]
            rfl
end Go.Proofs.Ytokbpcfgeklliaa
