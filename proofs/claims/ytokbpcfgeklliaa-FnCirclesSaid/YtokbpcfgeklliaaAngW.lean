/-
  AngleTurns, both sides walked; the law.
-/
import Derived.Test.YtokbpcfgeklliaaAng
namespace Go.Proofs.Ytokbpcfgeklliaa
open Go.RowKit
open Ieee
set_option linter.unusedVariables false
set_option linter.unusedSimpArgs false

set_option maxHeartbeats 1000000 in
theorem areFin_any (b : Nat) (x0 x1 : Nat) (w : World) (h0 : w.cell? ⟨b, 0, none⟩ = some (.float .f32 x0)) (h1 : w.cell? ⟨b, 1, none⟩ = some (.float .f32 x1)) :
    Calls Try.prog 32 #[.slice (some ⟨b, 0, none⟩) 2 2] w fun e w' => e = .returned (.bool (fin .f32 x0 && fin .f32 x1)) ∧ ∃ n, w' = w.drewN n := by
  have hz := World.drewN_zero
  go_enter Try.func32, Try.ntmps32
  go_wp2
  go_loopw [7] (fun i wr => ∃ k : Nat, k ≤ 2 ∧ i = .int .i64 k ∧ (1 ≤ k → fin .f32 x0 = true) ∧ (2 ≤ k → fin .f32 x1 = true) ∧ ∃ n, wr = w.drewN n) (fun i _ => 2 - (intOf i).toNat)
  case atStart => exact ⟨0, by omega, rfl, by omega, by omega, 0, rfl⟩
  case round =>
    obtain ⟨k, hk, rfl, hf0, hf1, n2, rfl⟩ := hrel
    have hc0 : (w.drewN n2).cell? ⟨b, 0, none⟩ = some (.float .f32 x0) := h0
    have hc1 : (w.drewN n2).cell? ⟨b, 1, none⟩ = some (.float .f32 x1) := h1
    have hh : k = 0 ∨ k = 1 ∨ k = 2 := by omega
    rcases hh with rfl | rfl | rfl
    · cases hf : fin .f32 x0
      · clear hf0 hf1 hk
        go_wp2_with (go_at_call 36; refine (IsFinite_any _ _).mono ?_; rintro e w' ⟨rfl, n3, rfl⟩)
        go_ret
        exact ⟨by rw [hf]; rfl, by first | exact ⟨_, rfl⟩ | (simp only [World.drewN_drewN]; exact ⟨_, rfl⟩)⟩
      · clear hf0 hf1 hk
        go_wp2_with (go_at_call 36; refine (IsFinite_any _ _).mono ?_; rintro e w' ⟨rfl, n3, rfl⟩)
        go_roundw
        case rel => exact ⟨1, by omega, by go_num, fun _ => by first | exact hf | trivial, by omega, by first | exact ⟨_, rfl⟩ | (simp only [World.drewN_drewN]; exact ⟨_, rfl⟩)⟩
        case measure => simp [intOf]
    · have hx0 := hf0 (by omega)
      cases hf : fin .f32 x1
      · clear hf0 hf1 hk
        go_wp2_with (go_at_call 36; refine (IsFinite_any _ _).mono ?_; rintro e w' ⟨rfl, n3, rfl⟩)
        go_ret
        exact ⟨by rw [hx0, hf]; rfl, by first | exact ⟨_, rfl⟩ | (simp only [World.drewN_drewN]; exact ⟨_, rfl⟩)⟩
      · clear hf0 hf1 hk
        go_wp2_with (go_at_call 36; refine (IsFinite_any _ _).mono ?_; rintro e w' ⟨rfl, n3, rfl⟩)
        go_roundw
        case rel => exact ⟨2, by omega, by go_num, fun _ => hx0, fun _ => by first | exact hf | trivial, by first | exact ⟨_, rfl⟩ | (simp only [World.drewN_drewN]; exact ⟨_, rfl⟩)⟩
        case measure => simp [intOf]
    · have hx0 := hf0 (by omega)
      have hx1 := hf1 (by omega)
      clear hf0 hf1 hk
      go_wp2
      go_ret
      exact ⟨by rw [hx0, hx1]; rfl, _, rfl⟩
theorem wrap_two {j : Nat} (h : j < 8) : IntKind.i64.wrap (15 - 2 * (j : Int) - 2) = 15 - 2 * ((j + 1 : Nat) : Int) := by
  have hh : j = 0 ∨ j = 1 ∨ j = 2 ∨ j = 3 ∨ j = 4 ∨ j = 5 ∨ j = 6 ∨ j = 7 := by omega
  rcases hh with rfl | rfl | rfl | rfl | rfl | rfl | rfl | rfl <;> rfl
theorem wrap_three {j : Nat} (h : j < 3) : IntKind.i64.wrap ((j : Int) + 1) = ((j + 1 : Nat) : Int) := by
  have hh : j = 0 ∨ j = 1 ∨ j = 2 := by omega
  rcases hh with rfl | rfl | rfl <;> rfl
theorem cn0' : cn .f64 0 = 0 := by decide +kernel
theorem cnK8 : cn .f64 4620693217682128896 = K8 := by decide +kernel
theorem rndI_step (k t : Nat) : rndI (k + 1) t = fo .quo .f64 (rndI k t) (fo .add .f64 K1 (sqo (fo .add .f64 K1 (fo .mul .f64 (rndI k t) (rndI k t))))) := rfl
theorem pA_step (u j : Nat) : pA u (j + 1) = fo .sub .f64 (fo .quo .f64 K1 (floatOfInt .f64 (15 - 2 * (j : Int)))) (fo .mul .f64 u (pA u j)) := rfl

set_option maxHeartbeats 8000000 in
theorem angWide_any (y x : Nat) (a b : Nat) (xn yn : Bool) (w : World) (hfy : fin .f64 y = true) (hfx : fin .f64 x = true) (hwy : (Lit.float .f64 y).wf = true) (hwx : (Lit.float .f64 x).wf = true) (hra : rg .f64 y = a) (hrb : rg .f64 x = b) (hnz : ¬ (b = 0 ∧ a = 0)) (hX : (FloatKind.f64.format.order x 0 == some .lt) = xn) (hY : (FloatKind.f64.format.order y 0 == some .lt) = yn) (ha : cn .f64 a = a) (hb : cn .f64 b = b) :
    Calls Try.prog 47 #[.float .f64 y, .float .f64 x] w fun e w' => ∃ r n, e = .returned (.float .f64 r) ∧ cn .f64 r = angY yn (angX xn (angO (gtrC a b) (angM (rndI 3 (ratA a b))))) ∧ w' = w.drewN n := by
  have s0 := neq_self hfy
  have s1 := neq_self hfx
  have z0 := eq_zero hfx
  have z1 := eq_zero hfy
  rw [hra] at z1
  rw [hrb] at z0
  have HX := Lib.hid hX
  have HY := Lib.hid hY
  have HA := Lib.hid ha
  have HB := Lib.hid hb
  obtain ⟨t0, ht0⟩ : ∃ t0, t0 = ratA a b := ⟨_, rfl⟩
  rw [← ht0]
  have hz := World.drewN_zero
  clear hX hY ha hb hfx hfy
  by_cases hx0 : b = 0
  · cases hg : gtrC a b
    · have e0 : (FloatKind.f64.format.order x 0 == some .eq) = true := by rw [z0]; exact decide_eq_true hx0
      have e1 : (FloatKind.f64.format.order y 0 == some .eq) = false := by rw [z1]; exact decide_eq_false (fun h => hnz ⟨hx0, h⟩)
      have v0 : (FloatKind.f64.format.order a b == some .gt) = false := hg
      have HT : Hid (t0 = fo .quo .f64 a b) := by show t0 = _; rw [ht0]; unfold ratA; rw [hg]; rfl
      clear hg z0 z1 hnz hx0 ht0
      subst hra hrb
      go_enter Try.func47, Try.ntmps47
      go_wp2_with (go_at_call 29; first | (refine (Abs_any _ _ hwy).mono ?_; rintro e w' ⟨rfl, rfl⟩) | (refine (Abs_any _ _ hwx).mono ?_; rintro e w' ⟨rfl, rfl⟩))
      go_loopw [8, 9] (fun t i wr => ∃ k : Nat, k ≤ 3 ∧ i = .int .i64 k ∧ (∃ tb, t = .float .f64 tb ∧ cn .f64 tb = rndI k t0) ∧ ∃ n, wr = w.drewN n) (fun _ i _ => 3 - (intOf i).toNat)
      case atStart => exact ⟨0, by omega, rfl, ⟨_, rfl, (by rw [show rndI 0 t0 = t0 from rfl, HT.out, cn_fv, HA.out, HB.out])⟩, by first | exact ⟨_, rfl⟩ | exact ⟨0, rfl⟩⟩
      case round =>
        obtain ⟨k, hk, rfl, ⟨tb, rfl, htb⟩, n2, hwr⟩ := hrel
        have HW := Lib.hid hwr
        have HTB := Lib.hid htb
        clear hwr htb
        by_cases h1 : k < 3
        · have w1 := wrap_three h1
          go_wp2_with (go_at_call 33; go_in)
          go_roundw
          case rel =>
            refine ⟨k + 1, by omega, by go_num, ⟨_, rfl, ?_⟩, by rw [HW.out]; simp only [World.drewN_drewN]; exact ⟨_, rfl⟩⟩
            simp only [cn_fv, cn_sqv, HTB.out, cnK1, rndI_step]
          case measure => simp [intOf]; omega
        · obtain rfl : k = 3 := by omega
          obtain ⟨tt, htt⟩ : ∃ tt, tt = rndI 3 t0 := ⟨_, rfl⟩
          have HTT := Lib.hid htt
          have HT2 : Hid (cn .f64 tb = tt) := by show cn .f64 tb = tt; rw [HTB.out, HTT.out]
          clear hk h1 htt HTB
          go_wp2
          go_loopw [11, 12] (fun p i wr => ∃ j : Nat, j ≤ 8 ∧ i = .int .i64 (15 - 2 * (j : Int)) ∧ (∃ pb, p = .float .f64 pb ∧ cn .f64 pb = pA (fo .mul .f64 tt tt) j) ∧ ∃ n, wr = w.drewN n) (fun _ i _ => (intOf i + 2).toNat)
          case atStart => exact ⟨0, by omega, rfl, ⟨_, rfl, cn0'⟩, by rw [HW.out]; simp only [World.drewN_drewN]; exact ⟨_, rfl⟩⟩
          case round =>
            obtain ⟨j, hj, rfl, ⟨pb, rfl, hpb⟩, n3, hwr⟩ := hrel
            have HW2 := Lib.hid hwr
            have HPB := Lib.hid hpb
            clear hwr hpb
            by_cases h1 : j < 8
            · have w1 := wrap_two h1
              go_wp2
              go_roundw
              case rel =>
                refine ⟨j + 1, by omega, by go_num, ⟨_, rfl, ?_⟩, by rw [HW2.out]; simp only [World.drewN_drewN]; exact ⟨_, rfl⟩⟩
                simp only [cn_fv, HT2.out, HPB.out, foi_cn, cnK1, pA_step]
              case measure => simp [intOf]; omega
            · obtain rfl : j = 8 := by omega
              clear hj h1
              cases hX : xn <;> cases hY : yn <;> rw [hX] at HX <;> rw [hY] at HY <;> have EX := Lib.hid hX <;> have EY := Lib.hid hY <;> clear hX hY
              · have q1 := HX.out
                have q2 := HY.out
                go_wp2_with fail
                go_ret
                refine ⟨_, _, rfl, ?_, by rw [HW2.out]; first | rfl | (simp only [World.drewN_drewN]; rfl)⟩
                simp only [cn_fv, cn_neg, HT2.out, HPB.out, cnK8, cnK2pi, cnK025, cnK05, foi_cn]
                rw [HTT.out, EX.out, EY.out]
                rfl
              · have q1 := HX.out
                have q2 := HY.out
                go_wp2_with fail
                go_ret
                refine ⟨_, _, rfl, ?_, by rw [HW2.out]; first | rfl | (simp only [World.drewN_drewN]; rfl)⟩
                simp only [cn_fv, cn_neg, HT2.out, HPB.out, cnK8, cnK2pi, cnK025, cnK05, foi_cn]
                rw [HTT.out, EX.out, EY.out]
                rfl
              · have q1 := HX.out
                have q2 := HY.out
                go_wp2_with fail
                go_ret
                refine ⟨_, _, rfl, ?_, by rw [HW2.out]; first | rfl | (simp only [World.drewN_drewN]; rfl)⟩
                simp only [cn_fv, cn_neg, HT2.out, HPB.out, cnK8, cnK2pi, cnK025, cnK05, foi_cn]
                rw [HTT.out, EX.out, EY.out]
                rfl
              · have q1 := HX.out
                have q2 := HY.out
                go_wp2_with fail
                go_ret
                refine ⟨_, _, rfl, ?_, by rw [HW2.out]; first | rfl | (simp only [World.drewN_drewN]; rfl)⟩
                simp only [cn_fv, cn_neg, HT2.out, HPB.out, cnK8, cnK2pi, cnK025, cnK05, foi_cn]
                rw [HTT.out, EX.out, EY.out]
                rfl
    · have e0 : (FloatKind.f64.format.order x 0 == some .eq) = true := by rw [z0]; exact decide_eq_true hx0
      have e1 : (FloatKind.f64.format.order y 0 == some .eq) = false := by rw [z1]; exact decide_eq_false (fun h => hnz ⟨hx0, h⟩)
      have v0 : (FloatKind.f64.format.order a b == some .gt) = true := hg
      have HT : Hid (t0 = fo .quo .f64 b a) := by show t0 = _; rw [ht0]; unfold ratA; rw [hg]; rfl
      clear hg z0 z1 hnz hx0 ht0
      subst hra hrb
      go_enter Try.func47, Try.ntmps47
      go_wp2_with (go_at_call 29; first | (refine (Abs_any _ _ hwy).mono ?_; rintro e w' ⟨rfl, rfl⟩) | (refine (Abs_any _ _ hwx).mono ?_; rintro e w' ⟨rfl, rfl⟩))
      go_loopw [8, 9] (fun t i wr => ∃ k : Nat, k ≤ 3 ∧ i = .int .i64 k ∧ (∃ tb, t = .float .f64 tb ∧ cn .f64 tb = rndI k t0) ∧ ∃ n, wr = w.drewN n) (fun _ i _ => 3 - (intOf i).toNat)
      case atStart => exact ⟨0, by omega, rfl, ⟨_, rfl, (by rw [show rndI 0 t0 = t0 from rfl, HT.out, cn_fv, HA.out, HB.out])⟩, by first | exact ⟨_, rfl⟩ | exact ⟨0, rfl⟩⟩
      case round =>
        obtain ⟨k, hk, rfl, ⟨tb, rfl, htb⟩, n2, hwr⟩ := hrel
        have HW := Lib.hid hwr
        have HTB := Lib.hid htb
        clear hwr htb
        by_cases h1 : k < 3
        · have w1 := wrap_three h1
          go_wp2_with (go_at_call 33; go_in)
          go_roundw
          case rel =>
            refine ⟨k + 1, by omega, by go_num, ⟨_, rfl, ?_⟩, by rw [HW.out]; simp only [World.drewN_drewN]; exact ⟨_, rfl⟩⟩
            simp only [cn_fv, cn_sqv, HTB.out, cnK1, rndI_step]
          case measure => simp [intOf]; omega
        · obtain rfl : k = 3 := by omega
          obtain ⟨tt, htt⟩ : ∃ tt, tt = rndI 3 t0 := ⟨_, rfl⟩
          have HTT := Lib.hid htt
          have HT2 : Hid (cn .f64 tb = tt) := by show cn .f64 tb = tt; rw [HTB.out, HTT.out]
          clear hk h1 htt HTB
          go_wp2
          go_loopw [11, 12] (fun p i wr => ∃ j : Nat, j ≤ 8 ∧ i = .int .i64 (15 - 2 * (j : Int)) ∧ (∃ pb, p = .float .f64 pb ∧ cn .f64 pb = pA (fo .mul .f64 tt tt) j) ∧ ∃ n, wr = w.drewN n) (fun _ i _ => (intOf i + 2).toNat)
          case atStart => exact ⟨0, by omega, rfl, ⟨_, rfl, cn0'⟩, by rw [HW.out]; simp only [World.drewN_drewN]; exact ⟨_, rfl⟩⟩
          case round =>
            obtain ⟨j, hj, rfl, ⟨pb, rfl, hpb⟩, n3, hwr⟩ := hrel
            have HW2 := Lib.hid hwr
            have HPB := Lib.hid hpb
            clear hwr hpb
            by_cases h1 : j < 8
            · have w1 := wrap_two h1
              go_wp2
              go_roundw
              case rel =>
                refine ⟨j + 1, by omega, by go_num, ⟨_, rfl, ?_⟩, by rw [HW2.out]; simp only [World.drewN_drewN]; exact ⟨_, rfl⟩⟩
                simp only [cn_fv, HT2.out, HPB.out, foi_cn, cnK1, pA_step]
              case measure => simp [intOf]; omega
            · obtain rfl : j = 8 := by omega
              clear hj h1
              cases hX : xn <;> cases hY : yn <;> rw [hX] at HX <;> rw [hY] at HY <;> have EX := Lib.hid hX <;> have EY := Lib.hid hY <;> clear hX hY
              · have q1 := HX.out
                have q2 := HY.out
                go_wp2_with fail
                go_ret
                refine ⟨_, _, rfl, ?_, by rw [HW2.out]; first | rfl | (simp only [World.drewN_drewN]; rfl)⟩
                simp only [cn_fv, cn_neg, HT2.out, HPB.out, cnK8, cnK2pi, cnK025, cnK05, foi_cn]
                rw [HTT.out, EX.out, EY.out]
                rfl
              · have q1 := HX.out
                have q2 := HY.out
                go_wp2_with fail
                go_ret
                refine ⟨_, _, rfl, ?_, by rw [HW2.out]; first | rfl | (simp only [World.drewN_drewN]; rfl)⟩
                simp only [cn_fv, cn_neg, HT2.out, HPB.out, cnK8, cnK2pi, cnK025, cnK05, foi_cn]
                rw [HTT.out, EX.out, EY.out]
                rfl
              · have q1 := HX.out
                have q2 := HY.out
                go_wp2_with fail
                go_ret
                refine ⟨_, _, rfl, ?_, by rw [HW2.out]; first | rfl | (simp only [World.drewN_drewN]; rfl)⟩
                simp only [cn_fv, cn_neg, HT2.out, HPB.out, cnK8, cnK2pi, cnK025, cnK05, foi_cn]
                rw [HTT.out, EX.out, EY.out]
                rfl
              · have q1 := HX.out
                have q2 := HY.out
                go_wp2_with fail
                go_ret
                refine ⟨_, _, rfl, ?_, by rw [HW2.out]; first | rfl | (simp only [World.drewN_drewN]; rfl)⟩
                simp only [cn_fv, cn_neg, HT2.out, HPB.out, cnK8, cnK2pi, cnK025, cnK05, foi_cn]
                rw [HTT.out, EX.out, EY.out]
                rfl
  · cases hg : gtrC a b
    · have e0 : (FloatKind.f64.format.order x 0 == some .eq) = false := by rw [z0]; exact decide_eq_false hx0
      have v0 : (FloatKind.f64.format.order a b == some .gt) = false := hg
      have HT : Hid (t0 = fo .quo .f64 a b) := by show t0 = _; rw [ht0]; unfold ratA; rw [hg]; rfl
      clear hg z0 z1 hnz hx0 ht0
      subst hra hrb
      go_enter Try.func47, Try.ntmps47
      go_wp2_with (go_at_call 29; first | (refine (Abs_any _ _ hwy).mono ?_; rintro e w' ⟨rfl, rfl⟩) | (refine (Abs_any _ _ hwx).mono ?_; rintro e w' ⟨rfl, rfl⟩))
      go_loopw [8, 9] (fun t i wr => ∃ k : Nat, k ≤ 3 ∧ i = .int .i64 k ∧ (∃ tb, t = .float .f64 tb ∧ cn .f64 tb = rndI k t0) ∧ ∃ n, wr = w.drewN n) (fun _ i _ => 3 - (intOf i).toNat)
      case atStart => exact ⟨0, by omega, rfl, ⟨_, rfl, (by rw [show rndI 0 t0 = t0 from rfl, HT.out, cn_fv, HA.out, HB.out])⟩, by first | exact ⟨_, rfl⟩ | exact ⟨0, rfl⟩⟩
      case round =>
        obtain ⟨k, hk, rfl, ⟨tb, rfl, htb⟩, n2, hwr⟩ := hrel
        have HW := Lib.hid hwr
        have HTB := Lib.hid htb
        clear hwr htb
        by_cases h1 : k < 3
        · have w1 := wrap_three h1
          go_wp2_with (go_at_call 33; go_in)
          go_roundw
          case rel =>
            refine ⟨k + 1, by omega, by go_num, ⟨_, rfl, ?_⟩, by rw [HW.out]; simp only [World.drewN_drewN]; exact ⟨_, rfl⟩⟩
            simp only [cn_fv, cn_sqv, HTB.out, cnK1, rndI_step]
          case measure => simp [intOf]; omega
        · obtain rfl : k = 3 := by omega
          obtain ⟨tt, htt⟩ : ∃ tt, tt = rndI 3 t0 := ⟨_, rfl⟩
          have HTT := Lib.hid htt
          have HT2 : Hid (cn .f64 tb = tt) := by show cn .f64 tb = tt; rw [HTB.out, HTT.out]
          clear hk h1 htt HTB
          go_wp2
          go_loopw [11, 12] (fun p i wr => ∃ j : Nat, j ≤ 8 ∧ i = .int .i64 (15 - 2 * (j : Int)) ∧ (∃ pb, p = .float .f64 pb ∧ cn .f64 pb = pA (fo .mul .f64 tt tt) j) ∧ ∃ n, wr = w.drewN n) (fun _ i _ => (intOf i + 2).toNat)
          case atStart => exact ⟨0, by omega, rfl, ⟨_, rfl, cn0'⟩, by rw [HW.out]; simp only [World.drewN_drewN]; exact ⟨_, rfl⟩⟩
          case round =>
            obtain ⟨j, hj, rfl, ⟨pb, rfl, hpb⟩, n3, hwr⟩ := hrel
            have HW2 := Lib.hid hwr
            have HPB := Lib.hid hpb
            clear hwr hpb
            by_cases h1 : j < 8
            · have w1 := wrap_two h1
              go_wp2
              go_roundw
              case rel =>
                refine ⟨j + 1, by omega, by go_num, ⟨_, rfl, ?_⟩, by rw [HW2.out]; simp only [World.drewN_drewN]; exact ⟨_, rfl⟩⟩
                simp only [cn_fv, HT2.out, HPB.out, foi_cn, cnK1, pA_step]
              case measure => simp [intOf]; omega
            · obtain rfl : j = 8 := by omega
              clear hj h1
              cases hX : xn <;> cases hY : yn <;> rw [hX] at HX <;> rw [hY] at HY <;> have EX := Lib.hid hX <;> have EY := Lib.hid hY <;> clear hX hY
              · have q1 := HX.out
                have q2 := HY.out
                go_wp2_with fail
                go_ret
                refine ⟨_, _, rfl, ?_, by rw [HW2.out]; first | rfl | (simp only [World.drewN_drewN]; rfl)⟩
                simp only [cn_fv, cn_neg, HT2.out, HPB.out, cnK8, cnK2pi, cnK025, cnK05, foi_cn]
                rw [HTT.out, EX.out, EY.out]
                rfl
              · have q1 := HX.out
                have q2 := HY.out
                go_wp2_with fail
                go_ret
                refine ⟨_, _, rfl, ?_, by rw [HW2.out]; first | rfl | (simp only [World.drewN_drewN]; rfl)⟩
                simp only [cn_fv, cn_neg, HT2.out, HPB.out, cnK8, cnK2pi, cnK025, cnK05, foi_cn]
                rw [HTT.out, EX.out, EY.out]
                rfl
              · have q1 := HX.out
                have q2 := HY.out
                go_wp2_with fail
                go_ret
                refine ⟨_, _, rfl, ?_, by rw [HW2.out]; first | rfl | (simp only [World.drewN_drewN]; rfl)⟩
                simp only [cn_fv, cn_neg, HT2.out, HPB.out, cnK8, cnK2pi, cnK025, cnK05, foi_cn]
                rw [HTT.out, EX.out, EY.out]
                rfl
              · have q1 := HX.out
                have q2 := HY.out
                go_wp2_with fail
                go_ret
                refine ⟨_, _, rfl, ?_, by rw [HW2.out]; first | rfl | (simp only [World.drewN_drewN]; rfl)⟩
                simp only [cn_fv, cn_neg, HT2.out, HPB.out, cnK8, cnK2pi, cnK025, cnK05, foi_cn]
                rw [HTT.out, EX.out, EY.out]
                rfl
    · have e0 : (FloatKind.f64.format.order x 0 == some .eq) = false := by rw [z0]; exact decide_eq_false hx0
      have v0 : (FloatKind.f64.format.order a b == some .gt) = true := hg
      have HT : Hid (t0 = fo .quo .f64 b a) := by show t0 = _; rw [ht0]; unfold ratA; rw [hg]; rfl
      clear hg z0 z1 hnz hx0 ht0
      subst hra hrb
      go_enter Try.func47, Try.ntmps47
      go_wp2_with (go_at_call 29; first | (refine (Abs_any _ _ hwy).mono ?_; rintro e w' ⟨rfl, rfl⟩) | (refine (Abs_any _ _ hwx).mono ?_; rintro e w' ⟨rfl, rfl⟩))
      go_loopw [8, 9] (fun t i wr => ∃ k : Nat, k ≤ 3 ∧ i = .int .i64 k ∧ (∃ tb, t = .float .f64 tb ∧ cn .f64 tb = rndI k t0) ∧ ∃ n, wr = w.drewN n) (fun _ i _ => 3 - (intOf i).toNat)
      case atStart => exact ⟨0, by omega, rfl, ⟨_, rfl, (by rw [show rndI 0 t0 = t0 from rfl, HT.out, cn_fv, HA.out, HB.out])⟩, by first | exact ⟨_, rfl⟩ | exact ⟨0, rfl⟩⟩
      case round =>
        obtain ⟨k, hk, rfl, ⟨tb, rfl, htb⟩, n2, hwr⟩ := hrel
        have HW := Lib.hid hwr
        have HTB := Lib.hid htb
        clear hwr htb
        by_cases h1 : k < 3
        · have w1 := wrap_three h1
          go_wp2_with (go_at_call 33; go_in)
          go_roundw
          case rel =>
            refine ⟨k + 1, by omega, by go_num, ⟨_, rfl, ?_⟩, by rw [HW.out]; simp only [World.drewN_drewN]; exact ⟨_, rfl⟩⟩
            simp only [cn_fv, cn_sqv, HTB.out, cnK1, rndI_step]
          case measure => simp [intOf]; omega
        · obtain rfl : k = 3 := by omega
          obtain ⟨tt, htt⟩ : ∃ tt, tt = rndI 3 t0 := ⟨_, rfl⟩
          have HTT := Lib.hid htt
          have HT2 : Hid (cn .f64 tb = tt) := by show cn .f64 tb = tt; rw [HTB.out, HTT.out]
          clear hk h1 htt HTB
          go_wp2
          go_loopw [11, 12] (fun p i wr => ∃ j : Nat, j ≤ 8 ∧ i = .int .i64 (15 - 2 * (j : Int)) ∧ (∃ pb, p = .float .f64 pb ∧ cn .f64 pb = pA (fo .mul .f64 tt tt) j) ∧ ∃ n, wr = w.drewN n) (fun _ i _ => (intOf i + 2).toNat)
          case atStart => exact ⟨0, by omega, rfl, ⟨_, rfl, cn0'⟩, by rw [HW.out]; simp only [World.drewN_drewN]; exact ⟨_, rfl⟩⟩
          case round =>
            obtain ⟨j, hj, rfl, ⟨pb, rfl, hpb⟩, n3, hwr⟩ := hrel
            have HW2 := Lib.hid hwr
            have HPB := Lib.hid hpb
            clear hwr hpb
            by_cases h1 : j < 8
            · have w1 := wrap_two h1
              go_wp2
              go_roundw
              case rel =>
                refine ⟨j + 1, by omega, by go_num, ⟨_, rfl, ?_⟩, by rw [HW2.out]; simp only [World.drewN_drewN]; exact ⟨_, rfl⟩⟩
                simp only [cn_fv, HT2.out, HPB.out, foi_cn, cnK1, pA_step]
              case measure => simp [intOf]; omega
            · obtain rfl : j = 8 := by omega
              clear hj h1
              cases hX : xn <;> cases hY : yn <;> rw [hX] at HX <;> rw [hY] at HY <;> have EX := Lib.hid hX <;> have EY := Lib.hid hY <;> clear hX hY
              · have q1 := HX.out
                have q2 := HY.out
                go_wp2_with fail
                go_ret
                refine ⟨_, _, rfl, ?_, by rw [HW2.out]; first | rfl | (simp only [World.drewN_drewN]; rfl)⟩
                simp only [cn_fv, cn_neg, HT2.out, HPB.out, cnK8, cnK2pi, cnK025, cnK05, foi_cn]
                rw [HTT.out, EX.out, EY.out]
                rfl
              · have q1 := HX.out
                have q2 := HY.out
                go_wp2_with fail
                go_ret
                refine ⟨_, _, rfl, ?_, by rw [HW2.out]; first | rfl | (simp only [World.drewN_drewN]; rfl)⟩
                simp only [cn_fv, cn_neg, HT2.out, HPB.out, cnK8, cnK2pi, cnK025, cnK05, foi_cn]
                rw [HTT.out, EX.out, EY.out]
                rfl
              · have q1 := HX.out
                have q2 := HY.out
                go_wp2_with fail
                go_ret
                refine ⟨_, _, rfl, ?_, by rw [HW2.out]; first | rfl | (simp only [World.drewN_drewN]; rfl)⟩
                simp only [cn_fv, cn_neg, HT2.out, HPB.out, cnK8, cnK2pi, cnK025, cnK05, foi_cn]
                rw [HTT.out, EX.out, EY.out]
                rfl
              · have q1 := HX.out
                have q2 := HY.out
                go_wp2_with fail
                go_ret
                refine ⟨_, _, rfl, ?_, by rw [HW2.out]; first | rfl | (simp only [World.drewN_drewN]; rfl)⟩
                simp only [cn_fv, cn_neg, HT2.out, HPB.out, cnK8, cnK2pi, cnK025, cnK05, foi_cn]
                rw [HTT.out, EX.out, EY.out]
                rfl
set_option maxHeartbeats 1000000 in
theorem angWide_nan (y x : Nat) (w : World) (h : (fin .f64 y && fin .f64 x) = false) : Calls Try.prog 47 #[.float .f64 y, .float .f64 x] w fun e w' => e = .returned (.float .f64 9221120237041090561) ∧ ∃ n, w' = w.drewN n := by
  cases hy : fin .f64 y
  · have s0 : ∀ u : World, (FloatKind.f64.format.order (fv .sub .f64 y y u) 0 != some .eq) = true := by
      intro u
      have := sub_self .f64 y u
      rw [hy] at this
      simpa using this
    clear h hy
    go_enter Try.func47, Try.ntmps47
    go_wp2_with (go_at_call 28; refine (NaN_any _).mono ?_; rintro e w' ⟨rfl, rfl⟩)
    go_ret
    exact ⟨rfl, _, rfl⟩
  · have s0 := neq_self hy
    have hx : fin .f64 x = false := by rw [hy] at h; simpa using h
    have s1 : ∀ u : World, (FloatKind.f64.format.order (fv .sub .f64 x x u) 0 != some .eq) = true := by
      intro u
      have := sub_self .f64 x u
      rw [hx] at this
      simpa using this
    clear h hy hx
    go_enter Try.func47, Try.ntmps47
    go_wp2_with (go_at_call 28; refine (NaN_any _).mono ?_; rintro e w' ⟨rfl, rfl⟩)
    go_ret
    exact ⟨rfl, _, rfl⟩
set_option maxHeartbeats 1000000 in
theorem angWide_zero (y x : Nat) (w : World) (hfy : fin .f64 y = true) (hfx : fin .f64 x = true) (hy : rg .f64 y = 0) (hx : rg .f64 x = 0) : Calls Try.prog 47 #[.float .f64 y, .float .f64 x] w fun e w' => e = .returned (.float .f64 0) ∧ ∃ n, w' = w.drewN n := by
  have s0 := neq_self hfy
  have s1 := neq_self hfx
  have z0 : (FloatKind.f64.format.order x 0 == some .eq) = true := by rw [eq_zero hfx]; exact decide_eq_true hx
  have z1 : (FloatKind.f64.format.order y 0 == some .eq) = true := by rw [eq_zero hfy]; exact decide_eq_true hy
  clear hfy hfx hy hx
  go_enter Try.func47, Try.ntmps47
  go_wp2
  go_ret
  exact ⟨rfl, _, rfl⟩
theorem angF_nan {y x : Nat} (h : (fin .f32 y && fin .f32 x) = false) : angF y x = qn .f32 := by unfold angF; rw [h]; rfl
theorem angF_zero {y x : Nat} (hy : fin .f32 y = true) (hx : fin .f32 x = true) (h : rg .f32 x = 0 ∧ rg .f32 y = 0) : angF y x = 0 := by unfold angF; rw [hy, hx, if_pos h]; rfl
theorem angF_mid {y x : Nat} (hy : fin .f32 y = true) (hx : fin .f32 x = true) (h : ¬ (rg .f32 x = 0 ∧ rg .f32 y = 0)) : angF y x = co .f64 .f32 (angY (sg .f32 y && decide (rg .f32 y ≠ 0)) (angX (sg .f32 x && decide (rg .f32 x ≠ 0)) (angO (gtrC (wr y) (wr x)) (angM (rndI 3 (ratA (wr y) (wr x))))))) := by unfold angF; rw [hy, hx, if_neg h]; rfl
theorem narrow_zero64 (W : World) : cn .f32 (cv .f64 .f32 0 W) = 0 := by rw [(narrow_bd (b := 0) (c := 0) W (by decide +kernel) (by unfold Bd; decide +kernel))]; decide +kernel
theorem wr_fin {b : Nat} (h : fin .f32 b = true) : wr b < FloatKind.f64.format.infRung := by have := wr_lt h; rw [inf64]; omega
theorem cn_wr {b : Nat} (h : fin .f32 b = true) : cn .f64 (wr b) = wr b := cn_of_not (isN_of_fin (fin_lt (k := .f64) (wr_fin h)).1)
theorem ang_bd {y x : Nat} (hy : fin .f32 y = true) (hx : fin .f32 x = true) (h : ¬ (rg .f32 x = 0 ∧ rg .f32 y = 0)) (p q : Bool) : Bd (angY p (angX q (angO (gtrC (wr y) (wr x)) (angM (rndI 3 (ratA (wr y) (wr x))))))) 127 := by
  have h0 : wr y ≠ 0 ∨ wr x ≠ 0 := by
    by_cases h1 : rg .f32 x = 0
    · exact .inl (fun h2 => h ⟨h1, (wr_zero hy).1 h2⟩)
    · exact .inr (fun h2 => h1 ((wr_zero hx).1 h2))
  exact angY_bd (angX_bd (angO_bd (angM_bd (rndI_bd (ratA_bd (wr_fin hy) (wr_fin hx) h0) 3))))
set_option maxHeartbeats 2000000 in
theorem specAng_any (y x : Nat) (w : World) (hwy : (Lit.float .f32 y).wf = true) (hwx : (Lit.float .f32 x).wf = true) : Calls Try.prog 11 #[.float .f32 y, .float .f32 x] w fun e w' => ∃ r n, e = .returned (.float .f32 r) ∧ cn .f32 r = angF y x ∧ w' = w.drewN n := by
  cases hf : (fin .f32 y && fin .f32 x)
  · have HF := Lib.hid (angF_nan hf)
    have hw : ∀ W W' : World, (fin .f64 (cv .f32 .f64 y W) && fin .f64 (cv .f32 .f64 x W')) = false := fun W W' => by rw [fin_widen, fin_widen, hf]
    clear hf hwy hwx
    go_enter Try.func11, Try.ntmps11
    go_wp2_with (first | (go_at_call 31; go_in) | (go_at_call 43; go_in) | (go_at_call 47; refine (angWide_nan _ _ _ (hw _ _)).mono ?_; rintro e w' ⟨rfl, n, rfl⟩))
    go_ret
    exact ⟨_, _, rfl, by rw [HF.out]; exact narrow_nan _, by first | rfl | (simp only [World.drewN_drewN]; rfl)⟩
  · obtain ⟨hy, hx⟩ : fin .f32 y = true ∧ fin .f32 x = true := by simpa using hf
    obtain ⟨ycv, ycd, yfy, yry⟩ := widen_is hy
    obtain ⟨xcv, xcd, xfx, xrx⟩ := widen_is hx
    have hz := World.drewN_zero
    have hwy' : (Lit.float .f64 (FloatKind.f64.format.word (sg .f32 y) (wr y))).wf = true := by rw [← ycv w]; exact cv_wf _ hwy
    have hwx' : (Lit.float .f64 (FloatKind.f64.format.word (sg .f32 x) (wr x))).wf = true := by rw [← xcv w]; exact cv_wf _ hwx
    have hlx := lt_zero xfx
    have hly := lt_zero yfy
    rw [xrx, show sg .f64 (FloatKind.f64.format.word (sg .f32 x) (wr x)) = sg .f32 x from sg_word .f64 _ (Nat.le_of_lt (wr_fin hx)), show decide (wr x ≠ 0) = decide (rg .f32 x ≠ 0) from decide_eq_decide.2 (not_congr (wr_zero hx))] at hlx
    rw [yry, show sg .f64 (FloatKind.f64.format.word (sg .f32 y) (wr y)) = sg .f32 y from sg_word .f64 _ (Nat.le_of_lt (wr_fin hy)), show decide (wr y ≠ 0) = decide (rg .f32 y ≠ 0) from decide_eq_decide.2 (not_congr (wr_zero hy))] at hly
    by_cases hnz : rg .f32 x = 0 ∧ rg .f32 y = 0
    · have HF := Lib.hid (angF_zero hy hx hnz)
      have y0 := yry.trans ((wr_zero hy).2 hnz.2)
      have x0 := xrx.trans ((wr_zero hx).2 hnz.1)
      clear hf hlx hly hwy hwx hwy' hwx'
      generalize FloatKind.f64.format.word (sg .f32 y) (wr y) = yw at *
      generalize FloatKind.f64.format.word (sg .f32 x) (wr x) = xw at *
      go_enter Try.func11, Try.ntmps11
      go_wp2_with (first | (go_at_call 31; go_in) | (go_at_call 43; go_in) | (go_at_call 47; refine (angWide_zero _ _ _ yfy xfx y0 x0).mono ?_; rintro e w' ⟨rfl, n, rfl⟩))
      go_ret
      exact ⟨_, _, rfl, by rw [HF.out]; exact narrow_zero64 _, by first | rfl | (simp only [World.drewN_drewN]; rfl)⟩
    · have HF := Lib.hid (angF_mid hy hx hnz)
      have hbd := ang_bd hy hx hnz (sg .f32 y && decide (rg .f32 y ≠ 0)) (sg .f32 x && decide (rg .f32 x ≠ 0))
      have hnz' : ¬ (wr x = 0 ∧ wr y = 0) := fun h => hnz ⟨(wr_zero hx).1 h.1, (wr_zero hy).1 h.2⟩
      have ca := cn_wr hy
      have cb := cn_wr hx
      clear hf hwy hwx hnz hy hx
      generalize (sg .f32 y && decide (rg .f32 y ≠ 0)) = yn at *
      generalize (sg .f32 x && decide (rg .f32 x ≠ 0)) = xn at *
      generalize FloatKind.f64.format.word (sg .f32 y) (wr y) = yw at *
      generalize FloatKind.f64.format.word (sg .f32 x) (wr x) = xw at *
      go_enter Try.func11, Try.ntmps11
      go_wp2_with (first | (go_at_call 31; go_in) | (go_at_call 43; go_in) | (go_at_call 47; refine (angWide_any _ _ _ _ _ _ _ yfy xfx hwy' hwx' yry xrx hnz' hlx hly ca cb).mono ?_; rintro e w' ⟨r, n, rfl, hr, rfl⟩; have HR := Lib.hid hr; clear hr))
      go_ret
      exact ⟨_, _, rfl, by rw [HF.out]; exact narrow_bd _ HR.out hbd, by first | rfl | (simp only [World.drewN_drewN]; rfl)⟩
end Go.Proofs.Ytokbpcfgeklliaa
