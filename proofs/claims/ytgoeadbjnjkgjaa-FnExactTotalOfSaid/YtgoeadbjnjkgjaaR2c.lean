/-
  The laws of SumNumbers, TotalOf and DotNumbers, walked out of the contracts.
-/
import Derived.Test.YtgoeadbjnjkgjaaSum
namespace Go.Proofs.Ytgoeadbjnjkgjaa
open Go.RowKit
set_option linter.unusedVariables false

set_option maxHeartbeats 800000 in
theorem fnExactSumNumbers_walk (a : Option Addr) (len cap : Nat) (xs : List Nat) (w0 : World) (h_a : IsRow mkF w0 a len cap xs) (hw : ∀ z ∈ xs, (Lit.float .f32 z).wf = true) :
    Calls Try.prog 7 #[.slice a len cap] w0 fun e w' => e = .returned (.bool true) ∧ Below w0.heap.size w0 w' := by
  have hm : len ≤ 9223372036854775807 := by have h1 := h_a.2.1; have h2 := h_a.2.2.1; unfold maxLen at h2; omega
  by_cases hl_a : len ≤ 1048576
  · have hlt : decide ((1048576 : Int) < (len : Int)) = false := decide_eq_false (by omega)
    by_cases hf : len ≤ 256
    · go_enter Try.func7, Try.ntmps7
      go_wp2_with fail
      refine (toF_any _ _ _ _ _ h_a hl_a).mono ?_
      rintro e w1 ⟨rfl, h_u0, st1⟩
      replace h_a := row_below h_a st1
      have hb := st1
      clear st1
      go_wp2_with fail
      refine (specSum_yes _ _ _ _ _ (row_of_own h_u0).2 hl_a hf).mono ?_
      rintro e w2 ⟨b1, n1, rfl, h1, hq1⟩
      have st2 : Below w1.heap.size w1 w2 := by rw [hq1]; first | exact below_drewN (Below.refl _ _) _ | exact below_drewN (below_drewN (Below.refl _ _) _) _
      clear hq1
      have H1 := Lib.hid h1
      clear h1
      replace h_a := row_below h_a st2
      replace h_u0 := own_below h_u0 st2
      replace hb := below_step hb st2
      clear st2
      go_wp2_with fail
      refine (toF_any _ _ _ _ _ h_a hl_a).mono ?_
      rintro e w3 ⟨rfl, h_x0, st3⟩
      replace h_a := row_below h_a st3
      replace h_u0 := own_below h_u0 st3
      replace hb := below_step hb st3
      clear st3
      go_wp2_with fail
      refine (implSumN_yes _ _ _ _ _ (row_of_own h_x0).2 hl_a hf).mono ?_
      rintro e w4 ⟨b2, n2, rfl, h2, hq2⟩
      have st4 : Below w3.heap.size w3 w4 := by rw [hq2]; first | exact below_drewN (Below.refl _ _) _ | exact below_drewN (below_drewN (Below.refl _ _) _) _
      clear hq2
      have H2 := Lib.hid h2
      clear h2
      replace h_a := row_below h_a st4
      replace h_u0 := own_below h_u0 st4
      replace h_x0 := own_below h_x0 st4
      replace hb := below_step hb st4
      clear st4
      go_wp2_with fail
      refine (sameFloat_any _ _ _ (by rw [cn_widen, cn_widen, H1.out, H2.out])).mono ?_
      rintro e w5 ⟨rfl, n3, hq3⟩
      have st5 : Below w4.heap.size w4 w5 := by rw [hq3]; first | exact below_drewN (Below.refl _ _) _ | exact below_drewN (below_drewN (Below.refl _ _) _) _
      clear hq3
      replace h_a := row_below h_a st5
      replace h_u0 := own_below h_u0 st5
      replace h_x0 := own_below h_x0 st5
      replace hb := below_step hb st5
      clear st5
      go_wp2_with fail
      refine (toF_any _ _ _ _ _ h_a hl_a).mono ?_
      rintro e w6 ⟨rfl, h_v0, st6⟩
      replace h_a := row_below h_a st6
      replace h_u0 := own_below h_u0 st6
      replace h_x0 := own_below h_x0 st6
      replace hb := below_step hb st6
      clear st6
      go_wp2_with fail
      refine (eqF_any _ _ _ _ _ _ _ _ _ (row_of_own h_x0).2 (row_of_own h_v0).2 rfl hl_a).mono ?_
      rintro e w7 ⟨rfl, n11, hq11⟩
      have st7 : Below w6.heap.size w6 w7 := by rw [hq11]; first | exact below_drewN (Below.refl _ _) _ | exact below_drewN (below_drewN (Below.refl _ _) _) _
      clear hq11
      replace h_a := row_below h_a st7
      replace h_u0 := own_below h_u0 st7
      replace h_x0 := own_below h_x0 st7
      replace h_v0 := own_below h_v0 st7
      replace hb := below_step hb st7
      clear st7
      go_wp2
      go_ret
      exact ⟨rfl, hb⟩
    · go_enter Try.func7, Try.ntmps7
      go_wp2_with fail
      refine (toF_any _ _ _ _ _ h_a hl_a).mono ?_
      rintro e w1 ⟨rfl, h_u0, st1⟩
      replace h_a := row_below h_a st1
      have hb := st1
      clear st1
      go_wp2_with fail
      refine (specSum_no _ _ _ _ hl_a hf).mono ?_
      rintro e w' ⟨rfl, rfl⟩
      go_wp2_with fail
      refine (toF_any _ _ _ _ _ h_a hl_a).mono ?_
      rintro e w2 ⟨rfl, h_x0, st2⟩
      replace h_a := row_below h_a st2
      replace h_u0 := own_below h_u0 st2
      replace hb := below_step hb st2
      clear st2
      go_wp2_with fail
      refine (implSumN_no _ _ _ _ hl_a hf).mono ?_
      rintro e w' ⟨rfl, rfl⟩
      go_wp2_with fail
      refine (sameFloat_any _ _ _ (by rw [cn_widen, cn_widen])).mono ?_
      rintro e w3 ⟨rfl, n3, hq3⟩
      have st3 : Below w2.heap.size w2 w3 := by rw [hq3]; first | exact below_drewN (Below.refl _ _) _ | exact below_drewN (below_drewN (Below.refl _ _) _) _
      clear hq3
      replace h_a := row_below h_a st3
      replace h_u0 := own_below h_u0 st3
      replace h_x0 := own_below h_x0 st3
      replace hb := below_step hb st3
      clear st3
      go_wp2_with fail
      refine (toF_any _ _ _ _ _ h_a hl_a).mono ?_
      rintro e w4 ⟨rfl, h_v0, st4⟩
      replace h_a := row_below h_a st4
      replace h_u0 := own_below h_u0 st4
      replace h_x0 := own_below h_x0 st4
      replace hb := below_step hb st4
      clear st4
      go_wp2_with fail
      refine (eqF_any _ _ _ _ _ _ _ _ _ (row_of_own h_x0).2 (row_of_own h_v0).2 rfl hl_a).mono ?_
      rintro e w5 ⟨rfl, n9, hq9⟩
      have st5 : Below w4.heap.size w4 w5 := by rw [hq9]; first | exact below_drewN (Below.refl _ _) _ | exact below_drewN (below_drewN (Below.refl _ _) _) _
      clear hq9
      replace h_a := row_below h_a st5
      replace h_u0 := own_below h_u0 st5
      replace h_x0 := own_below h_x0 st5
      replace h_v0 := own_below h_v0 st5
      replace hb := below_step hb st5
      clear st5
      go_wp2
      go_ret
      exact ⟨rfl, hb⟩
  · have hlt : decide ((1048576 : Int) < (len : Int)) = true := decide_eq_true (by omega)
    go_enter Try.func7, Try.ntmps7
    go_wp2_with fail
    go_ret
    exact ⟨rfl, Below.refl _ _⟩

set_option maxHeartbeats 800000 in
theorem fnExactTotalOf_walk (a : Option Addr) (len cap : Nat) (xs : List Nat) (w0 : World) (h_a : IsRow mkF w0 a len cap xs) (hw : ∀ z ∈ xs, (Lit.float .f32 z).wf = true) :
    Calls Try.prog 8 #[.slice a len cap] w0 fun e w' => e = .returned (.bool true) ∧ Below w0.heap.size w0 w' := by
  have hm : len ≤ 9223372036854775807 := by have h1 := h_a.2.1; have h2 := h_a.2.2.1; unfold maxLen at h2; omega
  by_cases hl_a : len ≤ 1048576
  · have hlt : decide ((1048576 : Int) < (len : Int)) = false := decide_eq_false (by omega)
    by_cases hf : len ≤ 256
    · go_enter Try.func8, Try.ntmps8
      go_wp2_with fail
      refine (toF_any _ _ _ _ _ h_a hl_a).mono ?_
      rintro e w1 ⟨rfl, h_u0, st1⟩
      replace h_a := row_below h_a st1
      have hb := st1
      clear st1
      go_wp2_with fail
      refine (specTotal_yes _ _ _ _ _ (row_of_own h_u0).2 hl_a hf).mono ?_
      rintro e w2 ⟨b1, n1, rfl, h1, hq1⟩
      have st2 : Below w1.heap.size w1 w2 := by rw [hq1]; first | exact below_drewN (Below.refl _ _) _ | exact below_drewN (below_drewN (Below.refl _ _) _) _
      clear hq1
      have H1 := Lib.hid h1
      clear h1
      replace h_a := row_below h_a st2
      replace h_u0 := own_below h_u0 st2
      replace hb := below_step hb st2
      clear st2
      go_wp2_with fail
      refine (toF_any _ _ _ _ _ h_a hl_a).mono ?_
      rintro e w3 ⟨rfl, h_x0, st3⟩
      replace h_a := row_below h_a st3
      replace h_u0 := own_below h_u0 st3
      replace hb := below_step hb st3
      clear st3
      go_wp2_with fail
      refine (implTotal_yes _ _ _ _ _ (row_of_own h_x0).2 hl_a hf).mono ?_
      rintro e w4 ⟨b2, n2, rfl, h2, hq2⟩
      have st4 : Below w3.heap.size w3 w4 := by rw [hq2]; first | exact below_drewN (Below.refl _ _) _ | exact below_drewN (below_drewN (Below.refl _ _) _) _
      clear hq2
      have H2 := Lib.hid h2
      clear h2
      replace h_a := row_below h_a st4
      replace h_u0 := own_below h_u0 st4
      replace h_x0 := own_below h_x0 st4
      replace hb := below_step hb st4
      clear st4
      go_wp2_with fail
      refine (sameFloat_any _ _ _ (by rw [cn_widen, cn_widen, H1.out, H2.out])).mono ?_
      rintro e w5 ⟨rfl, n3, hq3⟩
      have st5 : Below w4.heap.size w4 w5 := by rw [hq3]; first | exact below_drewN (Below.refl _ _) _ | exact below_drewN (below_drewN (Below.refl _ _) _) _
      clear hq3
      replace h_a := row_below h_a st5
      replace h_u0 := own_below h_u0 st5
      replace h_x0 := own_below h_x0 st5
      replace hb := below_step hb st5
      clear st5
      go_wp2_with fail
      refine (toF_any _ _ _ _ _ h_a hl_a).mono ?_
      rintro e w6 ⟨rfl, h_v0, st6⟩
      replace h_a := row_below h_a st6
      replace h_u0 := own_below h_u0 st6
      replace h_x0 := own_below h_x0 st6
      replace hb := below_step hb st6
      clear st6
      go_wp2_with fail
      refine (eqF_any _ _ _ _ _ _ _ _ _ (row_of_own h_x0).2 (row_of_own h_v0).2 rfl hl_a).mono ?_
      rintro e w7 ⟨rfl, n11, hq11⟩
      have st7 : Below w6.heap.size w6 w7 := by rw [hq11]; first | exact below_drewN (Below.refl _ _) _ | exact below_drewN (below_drewN (Below.refl _ _) _) _
      clear hq11
      replace h_a := row_below h_a st7
      replace h_u0 := own_below h_u0 st7
      replace h_x0 := own_below h_x0 st7
      replace h_v0 := own_below h_v0 st7
      replace hb := below_step hb st7
      clear st7
      go_wp2
      go_ret
      exact ⟨rfl, hb⟩
    · go_enter Try.func8, Try.ntmps8
      go_wp2_with fail
      refine (toF_any _ _ _ _ _ h_a hl_a).mono ?_
      rintro e w1 ⟨rfl, h_u0, st1⟩
      replace h_a := row_below h_a st1
      have hb := st1
      clear st1
      go_wp2_with fail
      refine (specTotal_no _ _ _ _ hl_a hf).mono ?_
      rintro e w' ⟨rfl, rfl⟩
      go_wp2_with fail
      refine (toF_any _ _ _ _ _ h_a hl_a).mono ?_
      rintro e w2 ⟨rfl, h_x0, st2⟩
      replace h_a := row_below h_a st2
      replace h_u0 := own_below h_u0 st2
      replace hb := below_step hb st2
      clear st2
      go_wp2_with fail
      refine (implTotal_no _ _ _ _ hl_a hf).mono ?_
      rintro e w' ⟨rfl, rfl⟩
      go_wp2_with fail
      refine (sameFloat_any _ _ _ (by rw [cn_widen, cn_widen])).mono ?_
      rintro e w3 ⟨rfl, n3, hq3⟩
      have st3 : Below w2.heap.size w2 w3 := by rw [hq3]; first | exact below_drewN (Below.refl _ _) _ | exact below_drewN (below_drewN (Below.refl _ _) _) _
      clear hq3
      replace h_a := row_below h_a st3
      replace h_u0 := own_below h_u0 st3
      replace h_x0 := own_below h_x0 st3
      replace hb := below_step hb st3
      clear st3
      go_wp2_with fail
      refine (toF_any _ _ _ _ _ h_a hl_a).mono ?_
      rintro e w4 ⟨rfl, h_v0, st4⟩
      replace h_a := row_below h_a st4
      replace h_u0 := own_below h_u0 st4
      replace h_x0 := own_below h_x0 st4
      replace hb := below_step hb st4
      clear st4
      go_wp2_with fail
      refine (eqF_any _ _ _ _ _ _ _ _ _ (row_of_own h_x0).2 (row_of_own h_v0).2 rfl hl_a).mono ?_
      rintro e w5 ⟨rfl, n9, hq9⟩
      have st5 : Below w4.heap.size w4 w5 := by rw [hq9]; first | exact below_drewN (Below.refl _ _) _ | exact below_drewN (below_drewN (Below.refl _ _) _) _
      clear hq9
      replace h_a := row_below h_a st5
      replace h_u0 := own_below h_u0 st5
      replace h_x0 := own_below h_x0 st5
      replace h_v0 := own_below h_v0 st5
      replace hb := below_step hb st5
      clear st5
      go_wp2
      go_ret
      exact ⟨rfl, hb⟩
  · have hlt : decide ((1048576 : Int) < (len : Int)) = true := decide_eq_true (by omega)
    go_enter Try.func8, Try.ntmps8
    go_wp2_with fail
    go_ret
    exact ⟨rfl, Below.refl _ _⟩

set_option maxHeartbeats 800000 in
theorem fnExactDotNumbers_walk (a : Option Addr) (len cap : Nat) (xs : List Nat) (b : Option Addr) (len' cap' : Nat) (ys : List Nat) (w0 : World) (h_a : IsRow mkF w0 a len cap xs) (hw : ∀ z ∈ xs, (Lit.float .f32 z).wf = true) (h_b : IsRow mkF w0 b len' cap' ys) (hw' : ∀ z ∈ ys, (Lit.float .f32 z).wf = true) :
    Calls Try.prog 9 #[.slice a len cap, .slice b len' cap'] w0 fun e w' => e = .returned (.bool true) ∧ Below w0.heap.size w0 w' := by
  have hm : len ≤ 9223372036854775807 := by have h1 := h_a.2.1; have h2 := h_a.2.2.1; unfold maxLen at h2; omega
  have hm' : len' ≤ 9223372036854775807 := by have h1 := h_b.2.1; have h2 := h_b.2.2.1; unfold maxLen at h2; omega
  by_cases hl_a : len ≤ 1048576
  · have hlt : decide ((1048576 : Int) < (len : Int)) = false := decide_eq_false (by omega)
    by_cases hl_b : len' ≤ 1048576
    · have hlt' : decide ((1048576 : Int) < (len' : Int)) = false := decide_eq_false (by omega)
      by_cases hf : len ≤ 256 ∧ len = len'
      · obtain ⟨hf, rfl⟩ := hf
        go_enter Try.func9, Try.ntmps9
        go_wp2_with fail
        refine (toF_any _ _ _ _ _ h_a hl_a).mono ?_
        rintro e w1 ⟨rfl, h_u0, st1⟩
        replace h_a := row_below h_a st1
        replace h_b := row_below h_b st1
        have hb := st1
        clear st1
        go_wp2_with fail
        refine (toF_any _ _ _ _ _ h_b hl_b).mono ?_
        rintro e w2 ⟨rfl, h_u1, st2⟩
        replace h_a := row_below h_a st2
        replace h_b := row_below h_b st2
        replace h_u0 := own_below h_u0 st2
        replace hb := below_step hb st2
        clear st2
        go_wp2_with fail
        refine (specDot_yes _ _ _ _ _ _ _ _ (row_of_own h_u0).2 (row_of_own h_u1).2 hf).mono ?_
        rintro e w3 ⟨b1, n1, rfl, h1, hq1⟩
        have st3 : Below w2.heap.size w2 w3 := by rw [hq1]; first | exact below_drewN (Below.refl _ _) _ | exact below_drewN (below_drewN (Below.refl _ _) _) _
        clear hq1
        have H1 := Lib.hid h1
        clear h1
        replace h_a := row_below h_a st3
        replace h_b := row_below h_b st3
        replace h_u0 := own_below h_u0 st3
        replace h_u1 := own_below h_u1 st3
        replace hb := below_step hb st3
        clear st3
        go_wp2_with fail
        refine (toF_any _ _ _ _ _ h_a hl_a).mono ?_
        rintro e w4 ⟨rfl, h_x0, st4⟩
        replace h_a := row_below h_a st4
        replace h_b := row_below h_b st4
        replace h_u0 := own_below h_u0 st4
        replace h_u1 := own_below h_u1 st4
        replace hb := below_step hb st4
        clear st4
        go_wp2_with fail
        refine (toF_any _ _ _ _ _ h_b hl_b).mono ?_
        rintro e w5 ⟨rfl, h_x1, st5⟩
        replace h_a := row_below h_a st5
        replace h_b := row_below h_b st5
        replace h_u0 := own_below h_u0 st5
        replace h_u1 := own_below h_u1 st5
        replace h_x0 := own_below h_x0 st5
        replace hb := below_step hb st5
        clear st5
        go_wp2_with fail
        refine (implDot_yes _ _ _ _ _ _ _ _ (row_of_own h_x0).2 (row_of_own h_x1).2 hf).mono ?_
        rintro e w6 ⟨b2, n2, rfl, h2, hq2⟩
        have st6 : Below w5.heap.size w5 w6 := by rw [hq2]; first | exact below_drewN (Below.refl _ _) _ | exact below_drewN (below_drewN (Below.refl _ _) _) _
        clear hq2
        have H2 := Lib.hid h2
        clear h2
        replace h_a := row_below h_a st6
        replace h_b := row_below h_b st6
        replace h_u0 := own_below h_u0 st6
        replace h_u1 := own_below h_u1 st6
        replace h_x0 := own_below h_x0 st6
        replace h_x1 := own_below h_x1 st6
        replace hb := below_step hb st6
        clear st6
        go_wp2_with fail
        refine (sameFloat_any _ _ _ (by rw [cn_widen, cn_widen, H1.out, H2.out])).mono ?_
        rintro e w7 ⟨rfl, n3, hq3⟩
        have st7 : Below w6.heap.size w6 w7 := by rw [hq3]; first | exact below_drewN (Below.refl _ _) _ | exact below_drewN (below_drewN (Below.refl _ _) _) _
        clear hq3
        replace h_a := row_below h_a st7
        replace h_b := row_below h_b st7
        replace h_u0 := own_below h_u0 st7
        replace h_u1 := own_below h_u1 st7
        replace h_x0 := own_below h_x0 st7
        replace h_x1 := own_below h_x1 st7
        replace hb := below_step hb st7
        clear st7
        go_wp2_with fail
        refine (toF_any _ _ _ _ _ h_a hl_a).mono ?_
        rintro e w8 ⟨rfl, h_v0, st8⟩
        replace h_a := row_below h_a st8
        replace h_b := row_below h_b st8
        replace h_u0 := own_below h_u0 st8
        replace h_u1 := own_below h_u1 st8
        replace h_x0 := own_below h_x0 st8
        replace h_x1 := own_below h_x1 st8
        replace hb := below_step hb st8
        clear st8
        go_wp2_with fail
        refine (eqF_any _ _ _ _ _ _ _ _ _ (row_of_own h_x0).2 (row_of_own h_v0).2 rfl hl_a).mono ?_
        rintro e w9 ⟨rfl, n13, hq13⟩
        have st9 : Below w8.heap.size w8 w9 := by rw [hq13]; first | exact below_drewN (Below.refl _ _) _ | exact below_drewN (below_drewN (Below.refl _ _) _) _
        clear hq13
        replace h_a := row_below h_a st9
        replace h_b := row_below h_b st9
        replace h_u0 := own_below h_u0 st9
        replace h_u1 := own_below h_u1 st9
        replace h_x0 := own_below h_x0 st9
        replace h_x1 := own_below h_x1 st9
        replace h_v0 := own_below h_v0 st9
        replace hb := below_step hb st9
        clear st9
        go_wp2_with fail
        refine (toF_any _ _ _ _ _ h_b hl_b).mono ?_
        rintro e w10 ⟨rfl, h_v1, st10⟩
        replace h_a := row_below h_a st10
        replace h_b := row_below h_b st10
        replace h_u0 := own_below h_u0 st10
        replace h_u1 := own_below h_u1 st10
        replace h_x0 := own_below h_x0 st10
        replace h_x1 := own_below h_x1 st10
        replace h_v0 := own_below h_v0 st10
        replace hb := below_step hb st10
        clear st10
        go_wp2_with fail
        refine (eqF_any _ _ _ _ _ _ _ _ _ (row_of_own h_x1).2 (row_of_own h_v1).2 rfl hl_b).mono ?_
        rintro e w11 ⟨rfl, n15, hq15⟩
        have st11 : Below w10.heap.size w10 w11 := by rw [hq15]; first | exact below_drewN (Below.refl _ _) _ | exact below_drewN (below_drewN (Below.refl _ _) _) _
        clear hq15
        replace h_a := row_below h_a st11
        replace h_b := row_below h_b st11
        replace h_u0 := own_below h_u0 st11
        replace h_u1 := own_below h_u1 st11
        replace h_x0 := own_below h_x0 st11
        replace h_x1 := own_below h_x1 st11
        replace h_v0 := own_below h_v0 st11
        replace h_v1 := own_below h_v1 st11
        replace hb := below_step hb st11
        clear st11
        go_wp2
        go_ret
        exact ⟨rfl, hb⟩
      · go_enter Try.func9, Try.ntmps9
        go_wp2_with fail
        refine (toF_any _ _ _ _ _ h_a hl_a).mono ?_
        rintro e w1 ⟨rfl, h_u0, st1⟩
        replace h_a := row_below h_a st1
        replace h_b := row_below h_b st1
        have hb := st1
        clear st1
        go_wp2_with fail
        refine (toF_any _ _ _ _ _ h_b hl_b).mono ?_
        rintro e w2 ⟨rfl, h_u1, st2⟩
        replace h_a := row_below h_a st2
        replace h_b := row_below h_b st2
        replace h_u0 := own_below h_u0 st2
        replace hb := below_step hb st2
        clear st2
        go_wp2_with fail
        refine (specDot_no _ _ _ _ _ _ _ hl_a hl_b hf).mono ?_
        rintro e w' ⟨rfl, rfl⟩
        go_wp2_with fail
        refine (toF_any _ _ _ _ _ h_a hl_a).mono ?_
        rintro e w3 ⟨rfl, h_x0, st3⟩
        replace h_a := row_below h_a st3
        replace h_b := row_below h_b st3
        replace h_u0 := own_below h_u0 st3
        replace h_u1 := own_below h_u1 st3
        replace hb := below_step hb st3
        clear st3
        go_wp2_with fail
        refine (toF_any _ _ _ _ _ h_b hl_b).mono ?_
        rintro e w4 ⟨rfl, h_x1, st4⟩
        replace h_a := row_below h_a st4
        replace h_b := row_below h_b st4
        replace h_u0 := own_below h_u0 st4
        replace h_u1 := own_below h_u1 st4
        replace h_x0 := own_below h_x0 st4
        replace hb := below_step hb st4
        clear st4
        go_wp2_with fail
        refine (implDot_no _ _ _ _ _ _ _ hl_a hl_b hf).mono ?_
        rintro e w' ⟨rfl, rfl⟩
        go_wp2_with fail
        refine (sameFloat_any _ _ _ (by rw [cn_widen, cn_widen])).mono ?_
        rintro e w5 ⟨rfl, n3, hq3⟩
        have st5 : Below w4.heap.size w4 w5 := by rw [hq3]; first | exact below_drewN (Below.refl _ _) _ | exact below_drewN (below_drewN (Below.refl _ _) _) _
        clear hq3
        replace h_a := row_below h_a st5
        replace h_b := row_below h_b st5
        replace h_u0 := own_below h_u0 st5
        replace h_u1 := own_below h_u1 st5
        replace h_x0 := own_below h_x0 st5
        replace h_x1 := own_below h_x1 st5
        replace hb := below_step hb st5
        clear st5
        go_wp2_with fail
        refine (toF_any _ _ _ _ _ h_a hl_a).mono ?_
        rintro e w6 ⟨rfl, h_v0, st6⟩
        replace h_a := row_below h_a st6
        replace h_b := row_below h_b st6
        replace h_u0 := own_below h_u0 st6
        replace h_u1 := own_below h_u1 st6
        replace h_x0 := own_below h_x0 st6
        replace h_x1 := own_below h_x1 st6
        replace hb := below_step hb st6
        clear st6
        go_wp2_with fail
        refine (eqF_any _ _ _ _ _ _ _ _ _ (row_of_own h_x0).2 (row_of_own h_v0).2 rfl hl_a).mono ?_
        rintro e w7 ⟨rfl, n11, hq11⟩
        have st7 : Below w6.heap.size w6 w7 := by rw [hq11]; first | exact below_drewN (Below.refl _ _) _ | exact below_drewN (below_drewN (Below.refl _ _) _) _
        clear hq11
        replace h_a := row_below h_a st7
        replace h_b := row_below h_b st7
        replace h_u0 := own_below h_u0 st7
        replace h_u1 := own_below h_u1 st7
        replace h_x0 := own_below h_x0 st7
        replace h_x1 := own_below h_x1 st7
        replace h_v0 := own_below h_v0 st7
        replace hb := below_step hb st7
        clear st7
        go_wp2_with fail
        refine (toF_any _ _ _ _ _ h_b hl_b).mono ?_
        rintro e w8 ⟨rfl, h_v1, st8⟩
        replace h_a := row_below h_a st8
        replace h_b := row_below h_b st8
        replace h_u0 := own_below h_u0 st8
        replace h_u1 := own_below h_u1 st8
        replace h_x0 := own_below h_x0 st8
        replace h_x1 := own_below h_x1 st8
        replace h_v0 := own_below h_v0 st8
        replace hb := below_step hb st8
        clear st8
        go_wp2_with fail
        refine (eqF_any _ _ _ _ _ _ _ _ _ (row_of_own h_x1).2 (row_of_own h_v1).2 rfl hl_b).mono ?_
        rintro e w9 ⟨rfl, n13, hq13⟩
        have st9 : Below w8.heap.size w8 w9 := by rw [hq13]; first | exact below_drewN (Below.refl _ _) _ | exact below_drewN (below_drewN (Below.refl _ _) _) _
        clear hq13
        replace h_a := row_below h_a st9
        replace h_b := row_below h_b st9
        replace h_u0 := own_below h_u0 st9
        replace h_u1 := own_below h_u1 st9
        replace h_x0 := own_below h_x0 st9
        replace h_x1 := own_below h_x1 st9
        replace h_v0 := own_below h_v0 st9
        replace h_v1 := own_below h_v1 st9
        replace hb := below_step hb st9
        clear st9
        go_wp2
        go_ret
        exact ⟨rfl, hb⟩
    · have hlt' : decide ((1048576 : Int) < (len' : Int)) = true := decide_eq_true (by omega)
      go_enter Try.func9, Try.ntmps9
      go_wp2_with fail
      go_ret
      exact ⟨rfl, Below.refl _ _⟩
  · have hlt : decide ((1048576 : Int) < (len : Int)) = true := decide_eq_true (by omega)
    go_enter Try.func9, Try.ntmps9
    go_wp2_with fail
    go_ret
    exact ⟨rfl, Below.refl _ _⟩
end Go.Proofs.Ytgoeadbjnjkgjaa
