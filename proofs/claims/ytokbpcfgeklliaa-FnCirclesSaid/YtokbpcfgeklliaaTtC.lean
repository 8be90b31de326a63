/-
  The tenths of decibels of products, rows 59 to 99, by the kernel.
-/
import Derived.Test.YtokbpcfgeklliaaTt
namespace Go.Proofs.Ytokbpcfgeklliaa
set_option maxRecDepth 100000 in
theorem row_59 : rowB 59 = true := by decide +kernel
set_option maxRecDepth 100000 in
theorem row_60 : rowB 60 = true := by decide +kernel
set_option maxRecDepth 100000 in
theorem row_61 : rowB 61 = true := by decide +kernel
set_option maxRecDepth 100000 in
theorem row_62 : rowB 62 = true := by decide +kernel
set_option maxRecDepth 100000 in
theorem row_63 : rowB 63 = true := by decide +kernel
set_option maxRecDepth 100000 in
theorem row_64 : rowB 64 = true := by decide +kernel
set_option maxRecDepth 100000 in
theorem row_65 : rowB 65 = true := by decide +kernel
set_option maxRecDepth 100000 in
theorem row_66 : rowB 66 = true := by decide +kernel
set_option maxRecDepth 100000 in
theorem row_67 : rowB 67 = true := by decide +kernel
set_option maxRecDepth 100000 in
theorem row_68 : rowB 68 = true := by decide +kernel
set_option maxRecDepth 100000 in
theorem row_69 : rowB 69 = true := by decide +kernel
set_option maxRecDepth 100000 in
theorem row_70 : rowB 70 = true := by decide +kernel
set_option maxRecDepth 100000 in
theorem row_71 : rowB 71 = true := by decide +kernel
set_option maxRecDepth 100000 in
theorem row_72 : rowB 72 = true := by decide +kernel
set_option maxRecDepth 100000 in
theorem row_73 : rowB 73 = true := by decide +kernel
set_option maxRecDepth 100000 in
theorem row_74 : rowB 74 = true := by decide +kernel
set_option maxRecDepth 100000 in
theorem row_75 : rowB 75 = true := by decide +kernel
set_option maxRecDepth 100000 in
theorem row_76 : rowB 76 = true := by decide +kernel
set_option maxRecDepth 100000 in
theorem row_77 : rowB 77 = true := by decide +kernel
set_option maxRecDepth 100000 in
theorem row_78 : rowB 78 = true := by decide +kernel
set_option maxRecDepth 100000 in
theorem row_79 : rowB 79 = true := by decide +kernel
set_option maxRecDepth 100000 in
theorem row_80 : rowB 80 = true := by decide +kernel
set_option maxRecDepth 100000 in
theorem row_81 : rowB 81 = true := by decide +kernel
set_option maxRecDepth 100000 in
theorem row_82 : rowB 82 = true := by decide +kernel
set_option maxRecDepth 100000 in
theorem row_83 : rowB 83 = true := by decide +kernel
set_option maxRecDepth 100000 in
theorem row_84 : rowB 84 = true := by decide +kernel
set_option maxRecDepth 100000 in
theorem row_85 : rowB 85 = true := by decide +kernel
set_option maxRecDepth 100000 in
theorem row_86 : rowB 86 = true := by decide +kernel
set_option maxRecDepth 100000 in
theorem row_87 : rowB 87 = true := by decide +kernel
set_option maxRecDepth 100000 in
theorem row_88 : rowB 88 = true := by decide +kernel
set_option maxRecDepth 100000 in
theorem row_89 : rowB 89 = true := by decide +kernel
set_option maxRecDepth 100000 in
theorem row_90 : rowB 90 = true := by decide +kernel
set_option maxRecDepth 100000 in
theorem row_91 : rowB 91 = true := by decide +kernel
set_option maxRecDepth 100000 in
theorem row_92 : rowB 92 = true := by decide +kernel
set_option maxRecDepth 100000 in
theorem row_93 : rowB 93 = true := by decide +kernel
set_option maxRecDepth 100000 in
theorem row_94 : rowB 94 = true := by decide +kernel
set_option maxRecDepth 100000 in
theorem row_95 : rowB 95 = true := by decide +kernel
set_option maxRecDepth 100000 in
theorem row_96 : rowB 96 = true := by decide +kernel
set_option maxRecDepth 100000 in
theorem row_97 : rowB 97 = true := by decide +kernel
set_option maxRecDepth 100000 in
theorem row_98 : rowB 98 = true := by decide +kernel
set_option maxRecDepth 100000 in
theorem row_99 : rowB 99 = true := by decide +kernel
theorem rows_C : ∀ i, i ∈ [59, 60, 61, 62, 63, 64, 65, 66, 67, 68, 69, 70, 71, 72, 73, 74, 75, 76, 77, 78, 79, 80, 81, 82, 83, 84, 85, 86, 87, 88, 89, 90, 91, 92, 93, 94, 95, 96, 97, 98, 99] → rowB i = true := by
  simp only [List.forall_mem_cons]
  exact ⟨row_59, row_60, row_61, row_62, row_63, row_64, row_65, row_66, row_67, row_68, row_69, row_70, row_71, row_72, row_73, row_74, row_75, row_76, row_77, row_78, row_79, row_80, row_81, row_82, row_83, row_84, row_85, row_86, row_87, row_88, row_89, row_90, row_91, row_92, row_93, row_94, row_95, row_96, row_97, row_98, row_99, fun _ h => by cases h⟩
theorem mem_C : ∀ k : Fin 41, (k.val + 59) ∈ [59, 60, 61, 62, 63, 64, 65, 66, 67, 68, 69, 70, 71, 72, 73, 74, 75, 76, 77, 78, 79, 80, 81, 82, 83, 84, 85, 86, 87, 88, 89, 90, 91, 92, 93, 94, 95, 96, 97, 98, 99] := by decide +kernel
theorem all_C {i : Nat} (h1 : 59 ≤ i) (h2 : i ≤ 99) : rowB i = true := by
  have := mem_C ⟨i - 59, by omega⟩
  rw [show (⟨i - 59, by omega⟩ : Fin 41).val + 59 = i by show i - 59 + 59 = i; omega] at this
  exact rows_C i this
end Go.Proofs.Ytokbpcfgeklliaa
