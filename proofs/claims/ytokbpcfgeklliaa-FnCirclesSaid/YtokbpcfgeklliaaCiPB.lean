/-
  Products of phasors of 64ths of turns, rows 16 to 31, by the kernel.
-/
import Derived.Test.YtokbpcfgeklliaaCiB
namespace Go.Proofs.Ytokbpcfgeklliaa
set_option maxRecDepth 100000 in
theorem prod_B : ∀ i : Fin 16, ∀ j : Fin 64, prodB (i.val + 16) j.val = true := by decide +kernel
end Go.Proofs.Ytokbpcfgeklliaa
