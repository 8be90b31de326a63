/-
  Products of phasors of 64ths of turns, rows 0 to 15, by the kernel.
-/
import Derived.Test.YtokbpcfgeklliaaCiB
namespace Go.Proofs.Ytokbpcfgeklliaa
set_option maxRecDepth 100000 in
theorem prod_A : ∀ i : Fin 16, ∀ j : Fin 64, prodB (i.val + 0) j.val = true := by decide +kernel
end Go.Proofs.Ytokbpcfgeklliaa
