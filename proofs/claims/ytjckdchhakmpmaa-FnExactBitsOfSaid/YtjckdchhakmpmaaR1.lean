/-
  Walks over the small functions of numbers: bits, same, finite, and of grids: the valid ones.
-/
import Derived.Test.YtjckdchhakmpmaaExt
import Derived.Test.YtjckdchhakmpmaaWd
namespace Go.Proofs.Ytjckdchhakmpmaa
open Go.RowKit

set_option maxHeartbeats 400000 in
theorem l01Bits_any (x : Nat) (w : World) (hw : (Lit.float .f32 x).wf = true) :
    Calls Try.prog 29 #[.float .f32 x] w fun e w' => e = .returned (.int .i64 (cn .f32 x : Nat)) ∧ w = w' := by
  have hx := wf_lt32 hw
  have ho := order_self .f32 x
  cases h : isN .f32 x
  · rw [cn_of_not h]
    rw [h, if_neg (by simp)] at ho
    clear hw h
    go_enter Try.func29, Try.ntmps29
    go_wp2
    go_ret
    exact ⟨rfl, rfl⟩
  · rw [cn_of_nan h]
    rw [h, if_pos rfl] at ho
    clear hw h
    go_enter Try.func29, Try.ntmps29
    go_wp2
    go_ret
    exact ⟨rfl, rfl⟩

set_option maxHeartbeats 400000 in
theorem BitsOf_any (x : Nat) (w : World) (hw : (Lit.float .f32 x).wf = true) :
    Calls Try.prog 19 #[.float .f32 x] w fun e w' => e = .returned (.int .i64 (cn .f32 x : Nat)) ∧ w = w' := by
  have hx := wf_lt32 hw
  have ho := order_self .f32 x
  cases h : isN .f32 x
  · rw [cn_of_not h]
    rw [h, if_neg (by simp)] at ho
    clear hw h
    go_enter Try.func19, Try.ntmps19
    go_wp2
    go_ret
    exact ⟨rfl, rfl⟩
  · rw [cn_of_nan h]
    rw [h, if_pos rfl] at ho
    clear hw h
    go_enter Try.func19, Try.ntmps19
    go_wp2
    go_ret
    exact ⟨rfl, rfl⟩

set_option maxHeartbeats 400000 in
theorem fnExactBitsOf_walk (x : Nat) (hw : (Lit.float .f32 x).wf = true) (w : World) :
    Calls Try.prog 7 #[.float .f32 x] w fun e w' => e = .returned (.bool true) ∧ Below w.heap.size w w' := by
  go_enter Try.func7, Try.ntmps7
  go_wp2_with (first | (go_at_call 18; go_in) | (go_at_call 29; refine (l01Bits_any _ _ hw).mono ?_; rintro e w' ⟨rfl, rfl⟩) | (go_at_call 19; refine (BitsOf_any _ _ hw).mono ?_; rintro e w' ⟨rfl, rfl⟩))
  go_ret
  exact ⟨rfl, Below.refl _ _⟩

end Go.Proofs.Ytjckdchhakmpmaa
