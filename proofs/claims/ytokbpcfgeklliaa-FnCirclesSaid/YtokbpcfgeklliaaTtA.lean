/-
  The tenths of decibels of products, rows 1 to 27, by the kernel.
-/
import Derived.Test.YtokbpcfgeklliaaTt
namespace Go.Proofs.Ytokbpcfgeklliaa
set_option maxRecDepth 100000 in
theorem row_1 : rowB 1 = true := by decide +kernel
set_option maxRecDepth 100000 in
theorem row_2 : rowB 2 = true := by decide +kernel
set_option maxRecDepth 100000 in
theorem row_3 : rowB 3 = true := by decide +kernel
set_option maxRecDepth 100000 in
theorem row_4 : rowB 4 = true := by decide +kernel
set_option maxRecDepth 100000 in
theorem row_5 : rowB 5 = true := by decide +kernel
set_option maxRecDepth 100000 in
theorem row_6 : rowB 6 = true := by decide +kernel
set_option maxRecDepth 100000 in
theorem row_7 : rowB 7 = true := by decide +kernel
set_option maxRecDepth 100000 in
theorem row_8 : rowB 8 = true := by decide +kernel
set_option maxRecDepth 100000 in
theorem row_9 : rowB 9 = true := by decide +kernel
set_option maxRecDepth 100000 in
theorem row_10 : rowB 10 = true := by decide +kernel
set_option maxRecDepth 100000 in
theorem row_11 : rowB 11 = true := by decide +kernel
set_option maxRecDepth 100000 in
theorem row_12 : rowB 12 = true := by decide +kernel
set_option maxRecDepth 100000 in
theorem row_13 : rowB 13 = true := by decide +kernel
set_option maxRecDepth 100000 in
theorem row_14 : rowB 14 = true := by decide +kernel
set_option maxRecDepth 100000 in
theorem row_15 : rowB 15 = true := by decide +kernel
set_option maxRecDepth 100000 in
theorem row_16 : rowB 16 = true := by decide +kernel
set_option maxRecDepth 100000 in
theorem row_17 : rowB 17 = true := by decide +kernel
set_option maxRecDepth 100000 in
theorem row_18 : rowB 18 = true := by decide +kernel
set_option maxRecDepth 100000 in
theorem row_19 : rowB 19 = true := by decide +kernel
set_option maxRecDepth 100000 in
theorem row_20 : rowB 20 = true := by decide +kernel
set_option maxRecDepth 100000 in
theorem row_21 : rowB 21 = true := by decide +kernel
set_option maxRecDepth 100000 in
theorem row_22 : rowB 22 = true := by decide +kernel
set_option maxRecDepth 100000 in
theorem row_23 : rowB 23 = true := by decide +kernel
set_option maxRecDepth 100000 in
theorem row_24 : rowB 24 = true := by decide +kernel
set_option maxRecDepth 100000 in
theorem row_25 : rowB 25 = true := by decide +kernel
set_option maxRecDepth 100000 in
theorem row_26 : rowB 26 = true := by decide +kernel
set_option maxRecDepth 100000 in
theorem row_27 : rowB 27 = true := by decide +kernel
theorem rows_A : ∀ i, i ∈ [1, 2, 3, 4, 5, 6, 7, 8, 9, 10, 11, 12, 13, 14, 15, 16, 17, 18, 19, 20, 21, 22, 23, 24, 25, 26, 27] → rowB i = true := by
  simp only [List.forall_mem_cons]
  exact ⟨row_1, row_2, row_3, row_4, row_5, row_6, row_7, row_8, row_9, row_10, row_11, row_12, row_13, row_14, row_15, row_16, row_17, row_18, row_19, row_20, row_21, row_22, row_23, row_24, row_25, row_26, row_27, fun _ h => by cases h⟩
theorem mem_A : ∀ k : Fin 27, (k.val + 1) ∈ [1, 2, 3, 4, 5, 6, 7, 8, 9, 10, 11, 12, 13, 14, 15, 16, 17, 18, 19, 20, 21, 22, 23, 24, 25, 26, 27] := by decide +kernel
theorem all_A {i : Nat} (h1 : 1 ≤ i) (h2 : i ≤ 27) : rowB i = true := by
  have := mem_A ⟨i - 1, by omega⟩
  rw [show (⟨i - 1, by omega⟩ : Fin 27).val + 1 = i by show i - 1 + 1 = i; omega] at this
  exact rows_A i this
end Go.Proofs.Ytokbpcfgeklliaa
