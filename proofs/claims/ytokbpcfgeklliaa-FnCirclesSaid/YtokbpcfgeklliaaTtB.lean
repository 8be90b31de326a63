/-
  The tenths of decibels of products, rows 28 to 58, by the kernel.
-/
import Derived.Test.YtokbpcfgeklliaaTt
namespace Go.Proofs.Ytokbpcfgeklliaa
set_option maxRecDepth 100000 in
theorem row_28 : rowB 28 = true := by decide +kernel
set_option maxRecDepth 100000 in
theorem row_29 : rowB 29 = true := by decide +kernel
set_option maxRecDepth 100000 in
theorem row_30 : rowB 30 = true := by decide +kernel
set_option maxRecDepth 100000 in
theorem row_31 : rowB 31 = true := by decide +kernel
set_option maxRecDepth 100000 in
theorem row_32 : rowB 32 = true := by decide +kernel
set_option maxRecDepth 100000 in
theorem row_33 : rowB 33 = true := by decide +kernel
set_option maxRecDepth 100000 in
theorem row_34 : rowB 34 = true := by decide +kernel
set_option maxRecDepth 100000 in
theorem row_35 : rowB 35 = true := by decide +kernel
set_option maxRecDepth 100000 in
theorem row_36 : rowB 36 = true := by decide +kernel
set_option maxRecDepth 100000 in
theorem row_37 : rowB 37 = true := by decide +kernel
set_option maxRecDepth 100000 in
theorem row_38 : rowB 38 = true := by decide +kernel
set_option maxRecDepth 100000 in
theorem row_39 : rowB 39 = true := by decide +kernel
set_option maxRecDepth 100000 in
theorem row_40 : rowB 40 = true := by decide +kernel
set_option maxRecDepth 100000 in
theorem row_41 : rowB 41 = true := by decide +kernel
set_option maxRecDepth 100000 in
theorem row_42 : rowB 42 = true := by decide +kernel
set_option maxRecDepth 100000 in
theorem row_43 : rowB 43 = true := by decide +kernel
set_option maxRecDepth 100000 in
theorem row_44 : rowB 44 = true := by decide +kernel
set_option maxRecDepth 100000 in
theorem row_45 : rowB 45 = true := by decide +kernel
set_option maxRecDepth 100000 in
theorem row_46 : rowB 46 = true := by decide +kernel
set_option maxRecDepth 100000 in
theorem row_47 : rowB 47 = true := by decide +kernel
set_option maxRecDepth 100000 in
theorem row_48 : rowB 48 = true := by decide +kernel
set_option maxRecDepth 100000 in
theorem row_49 : rowB 49 = true := by decide +kernel
set_option maxRecDepth 100000 in
theorem row_50 : rowB 50 = true := by decide +kernel
set_option maxRecDepth 100000 in
theorem row_51 : rowB 51 = true := by decide +kernel
set_option maxRecDepth 100000 in
theorem row_52 : rowB 52 = true := by decide +kernel
set_option maxRecDepth 100000 in
theorem row_53 : rowB 53 = true := by decide +kernel
set_option maxRecDepth 100000 in
theorem row_54 : rowB 54 = true := by decide +kernel
set_option maxRecDepth 100000 in
theorem row_55 : rowB 55 = true := by decide +kernel
set_option maxRecDepth 100000 in
theorem row_56 : rowB 56 = true := by decide +kernel
set_option maxRecDepth 100000 in
theorem row_57 : rowB 57 = true := by decide +kernel
set_option maxRecDepth 100000 in
theorem row_58 : rowB 58 = true := by decide +kernel
theorem rows_B : ∀ i, i ∈ [28, 29, 30, 31, 32, 33, 34, 35, 36, 37, 38, 39, 40, 41, 42, 43, 44, 45, 46, 47, 48, 49, 50, 51, 52, 53, 54, 55, 56, 57, 58] → rowB i = true := by
  simp only [List.forall_mem_cons]
  exact ⟨row_28, row_29, row_30, row_31, row_32, row_33, row_34, row_35, row_36, row_37, row_38, row_39, row_40, row_41, row_42, row_43, row_44, row_45, row_46, row_47, row_48, row_49, row_50, row_51, row_52, row_53, row_54, row_55, row_56, row_57, row_58, fun _ h => by cases h⟩
theorem mem_B : ∀ k : Fin 31, (k.val + 28) ∈ [28, 29, 30, 31, 32, 33, 34, 35, 36, 37, 38, 39, 40, 41, 42, 43, 44, 45, 46, 47, 48, 49, 50, 51, 52, 53, 54, 55, 56, 57, 58] := by decide +kernel
theorem all_B {i : Nat} (h1 : 28 ≤ i) (h2 : i ≤ 58) : rowB i = true := by
  have := mem_B ⟨i - 28, by omega⟩
  rw [show (⟨i - 28, by omega⟩ : Fin 31).val + 28 = i by show i - 28 + 28 = i; omega] at this
  exact rows_B i this
end Go.Proofs.Ytokbpcfgeklliaa
