/-
  IsField of the program.
-/
import Derived.Test.YtgoeadbjnjkgjaaGrid
namespace Go.Proofs.Ytgoeadbjnjkgjaa
open Go.RowKit
set_option linter.unusedVariables false

set_option maxHeartbeats 1000000 in
theorem implIsField_any (x y : Int) (a : Option Addr) (len cap : Nat) (w : World) (hl : len ≤ 1048576) :
    Calls Try.prog 24 #[.agg #[.int .i64 x, .int .i64 y], .slice a len cap] w fun e w' => e = .returned (.bool (fld x y len)) ∧ Below w.heap.size w w' := by
  cases h : vg x y
  · rw [fld_no h]
    go_enter Try.func24, Try.ntmps24
    go_wp2_with fail
    first | (go_region_with (go_at_call 51; refine (implValidGrid_is _ _ _ _ h).mono ?_; rintro e w1 ⟨rfl, hb1⟩)) | fail
    all_goals
      go_wp2
      go_ret
      exact ⟨rfl, ((Below.refl w.heap.size w).alloc (Nat.le_refl _) _).trans ((below_drewN (Below.refl _ _) 1).trans (hb1.mono (by simp)))⟩
  · rw [fld_yes h]
    go_enter Try.func24, Try.ntmps24
    go_wp2_with fail
    go_region_with (first | (go_at_call 51; refine (implValidGrid_is _ _ _ _ h).mono ?_; rintro e w1 ⟨rfl, hb1⟩; obtain ⟨hc1, hf1⟩ := bcell hb1; have hz1 : w.heap.size < w1.heap.size := by have := hb1.size; simp at this; omega) | (go_at_call 52; refine (length_any _ _ _ _ hl).mono ?_; rintro e w' ⟨rfl, rfl⟩) | (go_at_call 53; refine (size_any _ _ _ h).mono ?_; rintro e w2 ⟨rfl, hb2⟩))
    all_goals
      go_wp2
      go_ret
      exact ⟨rfl, ((Below.refl w.heap.size w).alloc (Nat.le_refl _) _).trans ((below_drewN (Below.refl _ _) 1).trans ((hb1.trans (hb2.mono hb1.size)).mono (by simp)))⟩
end Go.Proofs.Ytgoeadbjnjkgjaa
