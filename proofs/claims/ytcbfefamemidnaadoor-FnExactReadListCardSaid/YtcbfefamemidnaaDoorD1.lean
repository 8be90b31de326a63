/-
  Decimal: both sides walked; the law.
-/
import Derived.Test.YtcbfefamemidnaaDoorRows
import Derived.Test.YtcbfefamemidnaaDoorShD
import Derived.Test.YtcbfefamemidnaaDoorDec
import Derived.Test.YtcbfefamemidnaaDoorLd
import Derived.Lib.AppendIntMem
namespace Go.Proofs.YtcbfefamemidnaaDoor
open Go.RowKit Go.Lib
set_option linter.unusedVariables false
set_option linter.unusedSimpArgs false

theorem specDec_any (n : Int) (w : World) (h0 : -9223372036854775808 ≤ n) (h1 : n ≤ 9223372036854775807) :
    Calls Tryd.prog 11 #[.int .i64 n] w (strPost (itoa n) w) := by
  have hc := l01Dec_any n w h0 h1
  go_enter Tryd.func11, Tryd.ntmps11
  go_wp2_with (go_at_call 38; refine hc.mono ?_; rintro e w' ⟨rfl, hb⟩)
  go_ret
  exact ⟨rfl, hb⟩
theorem implDec_any (n : Int) (w : World) (h0 : -9223372036854775808 ≤ n) (h1 : n ≤ 9223372036854775807) (ht : Pow w) :
    Calls Tryd.prog 12 #[.int .i64 n] w (strPost (itoa n) w) := by
  have hc := Tryd.strconv_FormatInt_10 n h0 h1 w ht
  go_enter Tryd.func12, Tryd.ntmps12
  go_wp2_with (go_at_call 39; refine hc.mono ?_; rintro e w' ⟨rfl, k, os, rfl⟩)
  go_ret
  exact ⟨rfl, below_grow _ _ (Nat.le_refl _) _ _⟩
theorem fnExactDecimal_walk (n : Int) (w : World) (hn : (Lit.int .i64 n).wf = true) (hL : laidMet Tryd.prog Rows.fnExactDecimalRow.laid w) :
    Calls Tryd.prog 3 #[.int .i64 n] w fun e w' => e = .returned (.bool true) ∧ Below w.heap.size w w' := by
  have hb : -9223372036854775808 ≤ n ∧ n ≤ 9223372036854775807 := by simpa [Lit.wf, IntKind.min, IntKind.max, IntKind.signed, IntKind.bits] using hn
  have HP := Lib.hid (pow_dec hL)
  have hc := specDec_any n w hb.1 hb.2
  have hd := fun w1 h => implDec_any n w1 hb.1 hb.2 h
  clear hL hn hb
  go_enter Tryd.func3, Tryd.ntmps3
  go_wp2_with (first
    | (go_at_call 11; refine hc.mono ?_; rintro e w' ⟨rfl, hb⟩)
    | (go_at_call 12; refine (hd _ (HP.out.below hb)).mono ?_; rintro e w2 ⟨rfl, hb2⟩))
  go_ret
  exact ⟨rfl, hb.trans (hb2.mono hb.size)⟩
end Go.Proofs.YtcbfefamemidnaaDoor
