/-
  Circles: the law walked.
-/
import Derived.Test.YtokbpcfgeklliaaCiW
import Derived.Test.YtokbpcfgeklliaaTtL
namespace Go.Proofs.Ytokbpcfgeklliaa
open Go.RowKit
set_option linter.unusedVariables false
set_option linter.unusedSimpArgs false

set_option maxHeartbeats 400000 in
theorem l01Bits_any (x : Nat) (w : World) (hw : (Lit.float .f32 x).wf = true) :
    Calls Try.prog 55 #[.float .f32 x] w fun e w' => e = .returned (.int .i64 (cn .f32 x : Nat)) ∧ w = w' := by
  have hx := wf_lt32 hw
  have ho := order_self .f32 x
  cases h : isN .f32 x
  · rw [cn_of_not h]
    rw [h, if_neg (by simp)] at ho
    clear hw h
    go_enter Try.func55, Try.ntmps55
    go_wp2
    go_ret
    exact ⟨rfl, rfl⟩
  · rw [cn_of_nan h]
    rw [h, if_pos rfl] at ho
    clear hw h
    go_enter Try.func55, Try.ntmps55
    go_wp2
    go_ret
    exact ⟨rfl, rfl⟩
set_option maxHeartbeats 400000 in
theorem Same_no (w : World) :
    Calls Try.prog 25 #[.float .f32 1048576000, .float .f32 0] w fun e w' => e = .returned (.bool false) ∧ w = w' := by
  have h1 := fun W => l01Bits_any 1048576000 W (by decide +kernel)
  have h2 := fun W => l01Bits_any 0 W (by decide +kernel)
  rw [show cn .f32 1048576000 = 1048576000 by decide +kernel] at h1
  rw [show cn .f32 0 = 0 by decide +kernel] at h2
  go_enter Try.func25, Try.ntmps25
  go_wp2_with (first | (go_at_call 42; go_in) | (go_at_call 55; first | (refine (h1 _).mono ?_; rintro e w' ⟨rfl, rfl⟩) | (refine (h2 _).mono ?_; rintro e w' ⟨rfl, rfl⟩)))
  go_ret
  exact ⟨rfl, rfl⟩
theorem tq_some {a : Int} (h0 : -256 ≤ a) (h1 : a ≤ 254) : floatBits .quo .f64 (floatOfInt .f64 a) K64 = some (tq a) ∧ (Lit.float .f64 (tq a)).wf = true := by
  have hm := tq_of h0 h1
  unfold tqB at hm
  have h := (and_out hm).1
  cases hh : floatBits .quo .f64 (floatOfInt .f64 a) K64 with
  | none => rw [hh] at h; cases h
  | some v =>
    have he : tq a = v := by unfold tq; exact fo_some hh
    rw [he]
    refine ⟨rfl, ?_⟩
    have hf := (and_out (and_out hm).2).1
    rw [he] at hf
    have hv : v = fv .quo .f64 (floatOfInt .f64 a) K64 ((default : World)) := by unfold fv; rw [hh]; rfl
    rw [hv]
    exact fv_wf _ _ _ _ _
theorem ix_lt (a : Int) : (a % 64).toNat < 64 := by omega
theorem Ph_lit {a : Int} (h0 : -256 ≤ a) (h1 : a ≤ 254) (W : World) : Calls Try.prog 16 #[.float .f64 (tq a)] W fun e w' => ∃ n, e = .returned (.complex .f32 (phT (a % 64).toNat).1 (phT (a % 64).toNat).2) ∧ w' = W.drewN n := by
  obtain ⟨p1, p2⟩ := ph_at h0 h1
  obtain ⟨n1, n2, _⟩ := word_all (ix_lt a)
  refine (implPh_any (tq a) W (tq_some h0 h1).2).mono fun e w' ⟨r, i, n, he, hr, hi, hw⟩ => ?_
  have e1 := cn_lit (hr.trans p1) n1
  have e2 := cn_lit (hi.trans p2) n2
  exact ⟨n, by rw [he, e1, e2], hw⟩
theorem tenths_one : tenR 1065353216 = 0 ∧ tenB 1065353216 = true := by
  have h1 : X3 64 = 1065353216 := by decide +kernel
  have h2 : qten 64 = 2000 := by decide +kernel
  obtain ⟨a, b⟩ := tenR_X3 (n := 64) (by decide) (by decide) (by rw [h2]; decide)
  rw [h1] at a b
  rw [h2] at b
  exact ⟨b, a⟩
theorem ten_lit {x : Nat} {m : Int} (W : World) (h1 : tenR x = m) (h2 : tenB x = true) : Calls Try.prog 14 #[.float .f32 x] W fun e w' => ∃ n, e = .returned (.tuple #[.int .i64 m, .bool true]) ∧ w' = W.drewN n := by
  have h := implTen_any x W
  rw [h1, h2] at h
  exact h
theorem circ_below {w0 w1 w2 : World} {j k : Nat} (h1 : Below (w0.drewN j).heap.size (w0.drewN j) w1) (h2 : Below (w1.drewN k).heap.size (w1.drewN k) w2) : Below w0.heap.size w0 w2 := by
  have a1 : Below w0.heap.size w0 (w0.drewN j) := below_drewN (Below.refl _ _) j
  have a2 : Below w1.heap.size w1 (w1.drewN k) := below_drewN (Below.refl _ _) k
  exact (a1.trans h1).trans ((a2.trans h2).mono h1.size)
end Go.Proofs.Ytokbpcfgeklliaa
