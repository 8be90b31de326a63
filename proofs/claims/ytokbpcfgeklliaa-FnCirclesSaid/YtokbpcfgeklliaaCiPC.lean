/-
  Products of phasors of 64ths of turns, rows 32 to 47, by the kernel.
-/
import Derived.Test.YtokbpcfgeklliaaCiB
namespace Go.Proofs.Ytokbpcfgeklliaa
set_option maxRecDepth 100000 in
theorem prod_C : ∀ i : Fin 16, ∀ j : Fin 64, prodB (i.val + 32) j.val = true := by decide +kernel
end Go.Proofs.Ytokbpcfgeklliaa
