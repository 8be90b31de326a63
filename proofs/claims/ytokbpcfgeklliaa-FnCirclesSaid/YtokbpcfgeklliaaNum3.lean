/-
  Contracts of the small functions of floats: finite, absolute value, not-a-number; the entries of package math without a body.
-/
import Derived.Test.YtokbpcfgeklliaaExt
import Derived.Test.YtokbpcfgeklliaaTr
import Derived.Handy
import Derived.Lib.Hide
namespace Go.Proofs.Ytokbpcfgeklliaa
open Go.RowKit
set_option linter.unusedVariables false

theorem l01Finite_any (x : Nat) (w : World) :
    Calls Try.prog 34 #[.float .f32 x] w fun e w' => e = .returned (.bool (fin .f32 x)) ∧ ∃ n, w' = w.drewN n := by
  go_enter Try.func34, Try.ntmps34
  go_wp2
  go_ret
  exact ⟨ret_bool (sub_self .f32 x w), _, rfl⟩
theorem isFinite_any (x : Nat) (w : World) :
    Calls Try.prog 27 #[.float .f64 x] w fun e w' => e = .returned (.bool (fin .f64 x)) ∧ ∃ n, w' = w.drewN n := by
  go_enter Try.func27, Try.ntmps27
  go_wp2
  go_ret
  exact ⟨ret_bool (sub_self .f64 x w), _, rfl⟩
theorem IsFinite_any (x : Nat) (w : World) :
    Calls Try.prog 36 #[.float .f32 x] w fun e w' => e = .returned (.bool (fin .f32 x)) ∧ ∃ n, w' = w.drewN n := by
  go_enter Try.func36, Try.ntmps36
  go_wp2_with (go_at_call 27; refine (isFinite_any _ _).mono ?_; rintro e w' ⟨rfl, n, rfl⟩)
  go_ret
  exact ⟨ret_bool (fin_widen x w), _, rfl⟩
theorem Abs_any (x : Nat) (w : World) (hw : (Lit.float .f64 x).wf = true) :
    Calls Try.prog 29 #[.float .f64 x] w fun e w' => e = .returned (.float .f64 (rg .f64 x)) ∧ w = w' := by
  have hx := wf_lt64 hw
  have hb := abs_bits hx
  clear hw
  go_enter Try.func29, Try.ntmps29
  go_wp2
  go_ret
  exact ⟨by simp, rfl⟩

theorem run_integral {P : Program} (name : String) (way : Ieee.Toward) (x : Nat) (w : World) (h : fin .f64 x = true) : (Extern.MathFloor.toIntegral name way #[.float .f64 x]).run P w = .ok (.float .f64 (FloatKind.f64.encode ((FloatKind.f64.decode x).integral way))) w := by
  have hr : FloatKind.f64.decode x = _ := read_fin h
  have hu : Extern.MathFloor.toIntegral name way #[.float .f64 x] = (match FloatKind.f64.decode x with
    | .nan s t =>
      if FloatKind.f64.format.quiet t = t then pure (Value.float .f64 x) else do
      let kept ← choose (.extern "math.Floor,Ceil,Trunc,RoundToEven.signallingNaN kept" 2)
      pure (Value.float .f64 (if kept == 1 then x else FloatKind.f64.encode (.nan s (FloatKind.f64.format.quiet t))))
    | d => pure (Value.float .f64 (FloatKind.f64.encode (d.integral way)))) := rfl
  rw [hu, hr]
  rfl
theorem call_trunc (b : Nat) (w : World) (h : fin .f64 b = true) : (callFunc 61 #[.float .f64 b]).run Try.prog w = .ok (.value (.float .f64 (truncW b))) w := by rw [run_callFunc_extern Try.func61 (by kernel_rfl) (by kernel_rfl) (by kernel_rfl) (e := Extern.MathFloor.toIntegral "math.archTrunc" .zero) (by kernel_rfl), run_integral _ _ _ _ h, integral_trunc h]; rfl
@[go_sem] theorem call_sqrt (b : Nat) (w : World) : (callFunc 48 #[.float .f64 b]).run Try.prog w = .ok (.value (.float .f64 (sqv b w))) (w.drewN (sqd b)) := by rw [run_callFunc_extern Try.func48 (by kernel_rfl) (by kernel_rfl) (by kernel_rfl) (e := Extern.MathSqrt.sqrt) (by kernel_rfl), run_sqrt]; rfl
set_option maxHeartbeats 400000 in
theorem Trunc_any (t : Nat) (w : World) (h : fin .f64 t = true) :
    Calls Try.prog 53 #[.float .f64 t] w fun e w' => e = .returned (.float .f64 (truncW t)) ∧ w = w' := by
  have hc := fun W => call_trunc t W h
  go_enter Try.func53, Try.ntmps53
  go_wp2
  go_ret
  exact ⟨rfl, rfl⟩
set_option maxHeartbeats 400000 in
theorem NaN_any (w : World) :
    Calls Try.prog 28 #[] w fun e w' => e = .returned (.float .f64 9221120237041090561) ∧ w = w' := by
  go_enter Try.func28, Try.ntmps28
  go_wp2
  go_ret
  exact ⟨rfl, rfl⟩
/-- The opposite of a word, every NaN told as one. -/
def negC (c : Nat) : Nat := if isN .f64 c then qn .f64 else Op.negFloat .f64 c
theorem neg_rg (b : Nat) : rg .f64 (Op.negFloat .f64 b) = rg .f64 b := by
  have h : Op.negFloat .f64 b = b ^^^ 2 ^ 63 := rfl
  rw [h]
  unfold rg
  rw [sw64, show (9223372036854775808 : Nat) = 2 ^ 63 from rfl]
  apply Nat.eq_of_testBit_eq
  intro i
  rw [Nat.testBit_mod_two_pow, Nat.testBit_mod_two_pow, Nat.testBit_xor, Nat.testBit_two_pow]
  by_cases hi : i < 63
  · have : ¬ 63 = i := by omega
    simp [hi, this]
  · simp [hi]
theorem cn_neg (b : Nat) : cn .f64 (Op.negFloat .f64 b) = negC (cn .f64 b) := by
  have h : isN .f64 (Op.negFloat .f64 b) = isN .f64 b := by
    rw [isN_iff, isN_iff]
    have := neg_rg b
    unfold rg at this
    rw [this]
  unfold negC
  rw [isN_cn]
  cases hn : isN .f64 b
  · rw [cn_of_not (by rw [h, hn]), cn_of_not hn]
    simp
  · rw [cn_of_nan (by rw [h, hn])]
    simp
theorem Bd_neg {b : Nat} {j : Int} (h : Bd b j) (hj : j ≤ 1023) : Bd (negC b) j := by
  unfold negC
  rw [isN_of_fin (h.fin hj)]
  unfold Bd
  simp only [Bool.false_eq_true, if_false]
  rw [neg_rg]
  exact h
@[go_sem] theorem unary_neg_float (k : FloatKind) (b : Nat) : Op.unary .neg (.float k b) = pure (.float k (Op.negFloat k b)) := rfl

set_option maxHeartbeats 400000 in
theorem fraction_any (t : Nat) (w : World) (h : Bd t 52) :
    Calls Try.prog 39 #[.float .f64 t] w fun e w' => ∃ b n, e = .returned (.float .f64 b) ∧ cn .f64 b = fracC t ∧ w' = w.drewN n := by
  have hf := h.fin (by omega)
  have hnt : cn .f64 t = t := cn_of_not (isN_of_fin hf)
  have hz := trunc_zero h
  have hw := foi_whole t
  have hnw : cn .f64 (floatOfInt .f64 (wholeI t)) = floatOfInt .f64 (wholeI t) := cn_of_not (isN_of_fin ((foi_val h).2.fin (by omega)))
  obtain ⟨W, hW⟩ : ∃ W, W = floatOfInt .f64 (wholeI t) := ⟨_, rfl⟩
  have hF : Hid (fracC t = if lssC (fo .sub .f64 t W) 0 then fo .add .f64 (fo .sub .f64 t W) K1 else fo .sub .f64 t W) := by rw [hW]; exact rfl
  rw [← hW] at hw hnw
  have hl : ∀ u : World, (FloatKind.f64.format.order (fv .sub .f64 t W u) 0 == some .lt) = lssC (fo .sub .f64 t W) 0 := by
    intro u
    unfold lssC
    rw [← order_cn, cn_fv, hnt, hnw]
    rfl
  have hK1 : cn .f64 4607182418800017408 = K1 := by decide +kernel
  have HN := Lib.hid hnt
  have HNW := Lib.hid hnw
  have HK := Lib.hid hK1
  clear hnt hnw hK1 hW
  by_cases h0 : whole t = 0
  · rw [h0] at hz
    rw [if_pos h0] at hw
    subst hw
    clear h0
    cases hc : lssC (fo .sub .f64 t 0) 0
    · rw [hc] at hl
      have hF2 : Hid (fracC t = fo .sub .f64 t 0) := by rw [hF.out, hc]; exact rfl
      clear hc hF
      go_enter Try.func39, Try.ntmps39
      go_wp2_with (go_at_call 53; refine (Trunc_any _ _ hf).mono ?_; rintro e w' ⟨rfl, rfl⟩)
      go_ret
      exact ⟨_, _, rfl, by rw [cn_fv, HN.out, HNW.out, hF2.out], rfl⟩
    · rw [hc] at hl
      have hF2 : Hid (fracC t = fo .add .f64 (fo .sub .f64 t 0) K1) := by rw [hF.out, hc]; exact rfl
      clear hc hF
      go_enter Try.func39, Try.ntmps39
      go_wp2_with (go_at_call 53; refine (Trunc_any _ _ hf).mono ?_; rintro e w' ⟨rfl, rfl⟩)
      go_ret
      exact ⟨_, _, rfl, by rw [cn_fv, cn_fv, HN.out, HNW.out, HK.out, hF2.out], rfl⟩
  · have hz' : (FloatKind.f64.format.order (truncW t) 0 == some .eq) = false := by rw [hz]; exact decide_eq_false h0
    rw [if_neg h0] at hw
    subst hw
    clear h0 hz
    cases hc : lssC (fo .sub .f64 t (truncW t)) 0
    · rw [hc] at hl
      have hF2 : Hid (fracC t = fo .sub .f64 t (truncW t)) := by rw [hF.out, hc]; exact rfl
      clear hc hF
      go_enter Try.func39, Try.ntmps39
      go_wp2_with (go_at_call 53; refine (Trunc_any _ _ hf).mono ?_; rintro e w' ⟨rfl, rfl⟩)
      go_ret
      exact ⟨_, _, rfl, by rw [cn_fv, HN.out, HNW.out, hF2.out], rfl⟩
    · rw [hc] at hl
      have hF2 : Hid (fracC t = fo .add .f64 (fo .sub .f64 t (truncW t)) K1) := by rw [hF.out, hc]; exact rfl
      clear hc hF
      go_enter Try.func39, Try.ntmps39
      go_wp2_with (go_at_call 53; refine (Trunc_any _ _ hf).mono ?_; rintro e w' ⟨rfl, rfl⟩)
      go_ret
      exact ⟨_, _, rfl, by rw [cn_fv, cn_fv, HN.out, HNW.out, HK.out, hF2.out], rfl⟩
end Go.Proofs.Ytokbpcfgeklliaa
