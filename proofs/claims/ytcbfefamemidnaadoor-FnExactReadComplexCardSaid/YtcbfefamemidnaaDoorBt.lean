/-
  The bits of a number, both sides.
-/
import Derived.Test.YtcbfefamemidnaaDoorExt
import Derived.Test.YtcbfefamemidnaaDoorOrd
import Derived.Handy
namespace Go.Proofs.YtcbfefamemidnaaDoor
open Go.RowKit

set_option maxHeartbeats 400000 in
theorem l01Bits_any (x : Nat) (w : World) (hw : (Lit.float .f32 x).wf = true) :
    Calls Tryd.prog 81 #[.float .f32 x] w fun e w' => e = .returned (.int .i64 (cn .f32 x : Nat)) ∧ w = w' := by
  have hx := wf_lt32 hw
  have ho := order_self .f32 x
  cases h : isN .f32 x
  · rw [cn_of_not h]
    rw [h, if_neg (by simp)] at ho
    clear hw h
    go_enter Tryd.func81, Tryd.ntmps81
    go_wp2
    go_ret
    exact ⟨rfl, rfl⟩
  · rw [cn_of_nan h]
    rw [h, if_pos rfl] at ho
    clear hw h
    go_enter Tryd.func81, Tryd.ntmps81
    go_wp2
    go_ret
    exact ⟨rfl, rfl⟩

set_option maxHeartbeats 400000 in
theorem BitsOf_any (x : Nat) (w : World) (hw : (Lit.float .f32 x).wf = true) :
    Calls Tryd.prog 78 #[.float .f32 x] w fun e w' => e = .returned (.int .i64 (cn .f32 x : Nat)) ∧ w = w' := by
  have hx := wf_lt32 hw
  have ho := order_self .f32 x
  cases h : isN .f32 x
  · rw [cn_of_not h]
    rw [h, if_neg (by simp)] at ho
    clear hw h
    go_enter Tryd.func78, Tryd.ntmps78
    go_wp2
    go_ret
    exact ⟨rfl, rfl⟩
  · rw [cn_of_nan h]
    rw [h, if_pos rfl] at ho
    clear hw h
    go_enter Tryd.func78, Tryd.ntmps78
    go_wp2
    go_ret
    exact ⟨rfl, rfl⟩

end Go.Proofs.YtcbfefamemidnaaDoor
