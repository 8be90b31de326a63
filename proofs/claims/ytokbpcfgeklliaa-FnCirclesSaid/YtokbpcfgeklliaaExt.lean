/-
  The entries of Go's library without a body, as the walk meets them: bits of floats, square root, truncation. Closed facts by the kernel.
-/
import Derived.Test.YtokbpcfgeklliaaRows
import Derived.Test.YtokbpcfgeklliaaFl
namespace Go.Proofs.Ytokbpcfgeklliaa
open Go.RowKit

@[go_sem] theorem call_f32bits (b : Nat) (w : World) : (callFunc 63 #[.float .f32 b]).run Try.prog w = .ok (.value (.int .u32 b)) w := by kernel_rfl
@[go_sem] theorem call_f64bits (b : Nat) (w : World) : (callFunc 46 #[.float .f64 b]).run Try.prog w = .ok (.value (.int .u64 b)) w := by kernel_rfl
@[go_sem] theorem call_f32frombits (n : Int) (w : World) : (callFunc 60 #[.int .u32 n]).run Try.prog w = .ok (.value (.float .f32 n.toNat)) w := by kernel_rfl
@[go_sem] theorem call_f64frombits (n : Int) (w : World) : (callFunc 45 #[.int .u64 n]).run Try.prog w = .ok (.value (.float .f64 n.toNat)) w := by kernel_rfl

theorem order_self (k : FloatKind) (x : Nat) : k.format.order x x = if isN k x then none else some .eq := by
  unfold isN Ieee.Format.order
  cases k.format.read x with
  | number s m e => simp [Ieee.Datum.order, Ieee.Datum.isNaN]
  | infinity s => simp [Ieee.Datum.order, Ieee.Datum.isNaN]
  | nan s t => simp [Ieee.Datum.order, Ieee.Datum.isNaN]
theorem wf_lt32 {b : Nat} (h : (Lit.float .f32 b).wf = true) : b < 4294967296 := by simpa [Lit.wf] using h
theorem wf_lt64 {b : Nat} (h : (Lit.float .f64 b).wf = true) : b < 18446744073709551616 := by simpa [Lit.wf] using h
theorem ret_int {k : IntKind} {a b : Int} (h : a = b) : Ending.returned (.int k a) = .returned (.int k b) := by rw [h]
theorem ret_float {k : FloatKind} {a b : Nat} (h : a = b) : Ending.returned (.float k a) = .returned (.float k b) := by rw [h]
theorem ret_bool {a b : Bool} (h : a = b) : Ending.returned (.bool a) = .returned (.bool b) := by rw [h]
end Go.Proofs.Ytokbpcfgeklliaa
