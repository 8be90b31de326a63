/-
  Fields of grids: what IsField answers, on both sides.
-/
import Derived.Test.YtgoeadbjnjkgjaaSl
namespace Go.Proofs.Ytgoeadbjnjkgjaa
open Go.RowKit
set_option linter.unusedVariables false

def fld (x y : Int) (len : Nat) : Bool := vg x y && decide ((len : Int) = x * y)
theorem vg_bd {x y : Int} (h : vg x y = true) : 4 ≤ x ∧ x ≤ 16 ∧ 4 ≤ y ∧ y ≤ 16 := by
  unfold vg inB at h
  simp only [Bool.and_eq_true, decide_eq_true_eq] at h
  omega
theorem mul_bd {x y : Int} (h : vg x y = true) : 16 ≤ x * y ∧ x * y ≤ 256 := by
  obtain ⟨h1, h2, h3, h4⟩ := vg_bd h
  have a := Int.mul_le_mul h1 h3 (by omega) (by omega)
  have b := Int.mul_le_mul h2 h4 (by omega) (by omega)
  omega
theorem mul_wrap {x y : Int} (h : vg x y = true) : IntKind.i64.wrap (x * y) = x * y ∧ wrap64 (x * y) = x * y := by
  have hb := mul_bd h
  generalize x * y = p at *
  exact ⟨IntWalk.i64_in _ (by omega), IntWalk.wrap64_in _ (by omega)⟩
theorem fld_no {x y : Int} {len : Nat} (h : vg x y = false) : fld x y len = false := by unfold fld; rw [h]; rfl
theorem fld_yes {x y : Int} {len : Nat} (h : vg x y = true) : fld x y len = ((len : Int) == x * y) := by
  unfold fld
  rw [h, Bool.true_and]
  rfl

set_option maxHeartbeats 400000 in
theorem l02Is_any (b : Nat) (x y : Int) (w : World) (h0 : w.cell? ⟨b, 0, none⟩ = some (.int .i64 x)) (h1 : w.cell? ⟨b, 1, none⟩ = some (.int .i64 y)) :
    Calls Try.prog 69 #[.pointer (some ⟨b, 0, none⟩)] w fun e w' => e = .returned (.bool (vg x y)) ∧ w = w' := by
  unfold vg
  cases h : inB x 4 16
  · go_enter Try.func69, Try.ntmps69
    go_wp2_with (go_at_call 42; refine (l00In_any _ _ _ _).mono ?_; rintro e w' ⟨rfl, rfl⟩)
    go_ret
    exact ⟨rfl, rfl⟩
  · go_enter Try.func69, Try.ntmps69
    go_wp2_with (go_at_call 42; refine (l00In_any _ _ _ _).mono ?_; rintro e w' ⟨rfl, rfl⟩)
    go_ret
    exact ⟨rfl, rfl⟩
theorem l02Is_quiet (b : Nat) (x y : Int) (w : World) (c : Bool) (h : vg x y = c) (h0 : w.cell? ⟨b, 0, none⟩ = some (.int .i64 x)) (h1 : w.cell? ⟨b, 1, none⟩ = some (.int .i64 y)) :
    Calls Try.prog 69 #[.pointer (some ⟨b, 0, none⟩)] w fun e w' => e = .returned (.bool c) ∧ w' = w :=
  (l02Is_any b x y w h0 h1).mono fun e w' ⟨he, hw⟩ => ⟨by rw [← h]; exact he, hw.symm⟩
set_option maxHeartbeats 400000 in
theorem l02Field_any (b : Nat) (x y : Int) (a : Option Addr) (len cap : Nat) (w : World) (h0 : w.cell? ⟨b, 0, none⟩ = some (.int .i64 x)) (h1 : w.cell? ⟨b, 1, none⟩ = some (.int .i64 y)) (hl : len ≤ 1048576) :
    Calls Try.prog 50 #[.pointer (some ⟨b, 0, none⟩), .slice a len cap] w fun e w' => e = .returned (.bool (fld x y len)) ∧ ∃ n, w' = w.drewN n := by
  cases h : vg x y
  · rw [fld_no h]
    go_enter Try.func50, Try.ntmps50
    go_wp2_with fail
    go_quiet ((go_at_call 69; exact Calls.quiet_of_same (l02Is_quiet b x y _ _ h (by exact h0) (by exact h1))))
    go_wp2
    go_ret
    exact ⟨rfl, _, rfl⟩
  · rw [fld_yes h]
    have hm := mul_wrap h
    obtain ⟨hm1, hm2⟩ := hm
    go_enter Try.func50, Try.ntmps50
    go_wp2_with fail
    go_quiet ((go_at_call 69; exact Calls.quiet_of_same (l02Is_quiet b x y _ _ h (by exact h0) (by exact h1))))
    go_wp2
    go_ret
    exact ⟨rfl, _, rfl⟩
set_option maxHeartbeats 400000 in
theorem specIsField_any (x y : Int) (a : Option Addr) (len cap : Nat) (w : World) (hl : len ≤ 1048576) :
    Calls Try.prog 21 #[.agg #[.int .i64 x, .int .i64 y], .slice a len cap] w fun e w' => e = .returned (.bool (fld x y len)) ∧ Below w.heap.size w w' := by
  go_enter Try.func21, Try.ntmps21
  go_wp2_with (go_at_call 50; refine (l02Field_any _ x y _ _ _ _ (by simp) (by simp) hl).mono ?_; rintro e w' ⟨rfl, n, rfl⟩)
  go_ret
  exact ⟨rfl, below_drewN ((Below.refl _ _).alloc (Nat.le_refl _) _) _⟩
set_option maxHeartbeats 400000 in
theorem length_any (a : Option Addr) (len cap : Nat) (w : World) (hl : len ≤ 1048576) :
    Calls Try.prog 52 #[.slice a len cap] w fun e w' => e = .returned (.int .i64 (len : Int)) ∧ w = w' := by
  go_enter Try.func52, Try.ntmps52
  go_wp2
  go_ret
  exact ⟨rfl, rfl⟩
set_option maxHeartbeats 400000 in
theorem size_any (x y : Int) (w : World) (h : vg x y = true) :
    Calls Try.prog 53 #[.agg #[.int .i64 x, .int .i64 y]] w fun e w' => e = .returned (.int .i64 (x * y)) ∧ Below w.heap.size w w' := by
  obtain ⟨hm1, hm2⟩ := mul_wrap h
  go_enter Try.func53, Try.ntmps53
  go_wp2
  go_ret
  exact ⟨rfl, by go_grown⟩
theorem implValidGrid_is (x y : Int) (w : World) (c : Bool) (h : vg x y = c) :
    Calls Try.prog 51 #[.agg #[.int .i64 x, .int .i64 y]] w fun e w' => e = .returned (.bool c) ∧ Below w.heap.size w w' := by
  rw [← h]; exact implValidGrid_any x y w
end Go.Proofs.Ytgoeadbjnjkgjaa
