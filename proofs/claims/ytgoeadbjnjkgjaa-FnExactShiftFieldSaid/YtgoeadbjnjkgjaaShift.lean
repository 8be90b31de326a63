/-
  ShiftField: where a corner's number comes from; the index of a corner; the reference's walk.
-/
import Derived.Test.YtgoeadbjnjkgjaaScale
namespace Go.Proofs.Ytgoeadbjnjkgjaa
open Go.RowKit
set_option linter.unusedVariables false

/-- The index of a corner around the edges. -/
def ixI (W H x y : Int) : Int := x % W + W * (y % H)
theorem ixI_bd {W H x y : Int} (hW : 0 < W) (hH : 0 < H) : 0 ≤ ixI W H x y ∧ ixI W H x y < W * H := by
  unfold ixI
  have h1 := Int.emod_nonneg x (show W ≠ 0 by omega)
  have h2 := Int.emod_lt_of_pos x hW
  have h3 := Int.emod_nonneg y (show H ≠ 0 by omega)
  have h4 := Int.emod_lt_of_pos y hH
  generalize x % W = p at *
  generalize y % H = q at *
  have h5 : 0 ≤ W * q := Int.mul_nonneg (by omega) h3
  have h6 : W * (q + 1) ≤ W * H := Int.mul_le_mul_of_nonneg_left (by omega) (by omega)
  rw [Int.mul_add] at h6
  omega
theorem ix_facts {W H x y : Int} (hg : vg W H = true) : (IntKind.i64.wrap (W * (y % H)) = W * (y % H) ∧ wrap64 (W * (y % H)) = W * (y % H)) ∧ (IntKind.i64.wrap (x % W + W * (y % H)) = x % W + W * (y % H) ∧ wrap64 (x % W + W * (y % H)) = x % W + W * (y % H)) := by
  obtain ⟨a1, a2, a3, a4⟩ := vg_bd hg
  have h1 := Int.emod_nonneg x (show W ≠ 0 by omega)
  have h2 := Int.emod_lt_of_pos x (show 0 < W by omega)
  have h3 := Int.emod_nonneg y (show H ≠ 0 by omega)
  have h4 := Int.emod_lt_of_pos y (show 0 < H by omega)
  have h5 : 0 ≤ W * (y % H) := Int.mul_nonneg (by omega) h3
  have h6 : W * (y % H) ≤ 16 * 16 := Int.mul_le_mul (by omega) (by omega) h3 (by omega)
  exact ⟨⟨IntWalk.i64_in _ (by omega), IntWalk.wrap64_in _ (by omega)⟩, ⟨IntWalk.i64_in _ (by omega), IntWalk.wrap64_in _ (by omega)⟩⟩
set_option maxHeartbeats 1000000 in
theorem index_any (W H x y : Int) (w : World) (hg : vg W H = true) (hx0 : -16 ≤ x) (hx1 : x ≤ 32) (hy0 : -16 ≤ y) (hy1 : y ≤ 32) :
    Calls Try.prog 62 #[.agg #[.int .i64 W, .int .i64 H], .int .i64 x, .int .i64 y] w fun e w' => e = .returned (.int .i64 (ixI W H x y)) ∧ Below w.heap.size w w' := by
  obtain ⟨a1, a2, a3, a4⟩ := vg_bd hg
  have b1 : IntKind.i64.wrap (4 * W) = 4 * W := IntWalk.i64_in _ (by omega)
  have b2 : IntKind.i64.wrap (4 * H) = 4 * H := IntWalk.i64_in _ (by omega)
  have b3 : IntKind.i64.wrap (x + 4 * W) = x + 4 * W := IntWalk.i64_in _ (by omega)
  have b4 : IntKind.i64.wrap (y + 4 * H) = y + 4 * H := IntWalk.i64_in _ (by omega)
  have c1 : (x + 4 * W).tmod W = x % W := by rw [Int.tmod_eq_emod_of_nonneg (by omega)]; simp
  have c2 : (y + 4 * H).tmod H = y % H := by rw [Int.tmod_eq_emod_of_nonneg (by omega)]; simp
  obtain ⟨⟨d3, d3'⟩, d4, d4'⟩ := ix_facts (x := x) (y := y) hg
  have e1 : ¬ W = 0 := by omega
  have e2 : ¬ H = 0 := by omega
  unfold ixI at *
  clear hx0 hx1 hy0 hy1 a1 a2 a3 a4
  go_enter Try.func62, Try.ntmps62
  go_wp2_with fail
  go_quiet (fail)
  go_wp2
  go_ret
  exact ⟨rfl, below_drewN ((Below.refl _ _).alloc (Nat.le_refl _) _) _⟩
end Go.Proofs.Ytgoeadbjnjkgjaa
