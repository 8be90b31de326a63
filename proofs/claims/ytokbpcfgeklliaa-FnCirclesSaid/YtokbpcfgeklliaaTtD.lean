/-
  The tenths of decibels of products, rows 100 to 200, by the kernel.
-/
import Derived.Test.YtokbpcfgeklliaaTt
namespace Go.Proofs.Ytokbpcfgeklliaa
set_option maxRecDepth 100000 in
theorem row_100 : rowB 100 = true := by decide +kernel
set_option maxRecDepth 100000 in
theorem row_101 : rowB 101 = true := by decide +kernel
set_option maxRecDepth 100000 in
theorem row_102 : rowB 102 = true := by decide +kernel
set_option maxRecDepth 100000 in
theorem row_103 : rowB 103 = true := by decide +kernel
set_option maxRecDepth 100000 in
theorem row_104 : rowB 104 = true := by decide +kernel
set_option maxRecDepth 100000 in
theorem row_105 : rowB 105 = true := by decide +kernel
set_option maxRecDepth 100000 in
theorem row_106 : rowB 106 = true := by decide +kernel
set_option maxRecDepth 100000 in
theorem row_107 : rowB 107 = true := by decide +kernel
set_option maxRecDepth 100000 in
theorem row_108 : rowB 108 = true := by decide +kernel
set_option maxRecDepth 100000 in
theorem row_109 : rowB 109 = true := by decide +kernel
set_option maxRecDepth 100000 in
theorem row_110 : rowB 110 = true := by decide +kernel
set_option maxRecDepth 100000 in
theorem row_111 : rowB 111 = true := by decide +kernel
set_option maxRecDepth 100000 in
theorem row_112 : rowB 112 = true := by decide +kernel
set_option maxRecDepth 100000 in
theorem row_113 : rowB 113 = true := by decide +kernel
set_option maxRecDepth 100000 in
theorem row_114 : rowB 114 = true := by decide +kernel
set_option maxRecDepth 100000 in
theorem row_115 : rowB 115 = true := by decide +kernel
set_option maxRecDepth 100000 in
theorem row_116 : rowB 116 = true := by decide +kernel
set_option maxRecDepth 100000 in
theorem row_117 : rowB 117 = true := by decide +kernel
set_option maxRecDepth 100000 in
theorem row_118 : rowB 118 = true := by decide +kernel
set_option maxRecDepth 100000 in
theorem row_119 : rowB 119 = true := by decide +kernel
set_option maxRecDepth 100000 in
theorem row_120 : rowB 120 = true := by decide +kernel
set_option maxRecDepth 100000 in
theorem row_121 : rowB 121 = true := by decide +kernel
set_option maxRecDepth 100000 in
theorem row_122 : rowB 122 = true := by decide +kernel
set_option maxRecDepth 100000 in
theorem row_123 : rowB 123 = true := by decide +kernel
set_option maxRecDepth 100000 in
theorem row_124 : rowB 124 = true := by decide +kernel
set_option maxRecDepth 100000 in
theorem row_125 : rowB 125 = true := by decide +kernel
set_option maxRecDepth 100000 in
theorem row_126 : rowB 126 = true := by decide +kernel
set_option maxRecDepth 100000 in
theorem row_127 : rowB 127 = true := by decide +kernel
set_option maxRecDepth 100000 in
theorem row_128 : rowB 128 = true := by decide +kernel
set_option maxRecDepth 100000 in
theorem row_129 : rowB 129 = true := by decide +kernel
set_option maxRecDepth 100000 in
theorem row_130 : rowB 130 = true := by decide +kernel
set_option maxRecDepth 100000 in
theorem row_131 : rowB 131 = true := by decide +kernel
set_option maxRecDepth 100000 in
theorem row_132 : rowB 132 = true := by decide +kernel
set_option maxRecDepth 100000 in
theorem row_133 : rowB 133 = true := by decide +kernel
set_option maxRecDepth 100000 in
theorem row_134 : rowB 134 = true := by decide +kernel
set_option maxRecDepth 100000 in
theorem row_135 : rowB 135 = true := by decide +kernel
set_option maxRecDepth 100000 in
theorem row_136 : rowB 136 = true := by decide +kernel
set_option maxRecDepth 100000 in
theorem row_137 : rowB 137 = true := by decide +kernel
set_option maxRecDepth 100000 in
theorem row_138 : rowB 138 = true := by decide +kernel
set_option maxRecDepth 100000 in
theorem row_139 : rowB 139 = true := by decide +kernel
set_option maxRecDepth 100000 in
theorem row_140 : rowB 140 = true := by decide +kernel
set_option maxRecDepth 100000 in
theorem row_141 : rowB 141 = true := by decide +kernel
set_option maxRecDepth 100000 in
theorem row_142 : rowB 142 = true := by decide +kernel
set_option maxRecDepth 100000 in
theorem row_143 : rowB 143 = true := by decide +kernel
set_option maxRecDepth 100000 in
theorem row_144 : rowB 144 = true := by decide +kernel
set_option maxRecDepth 100000 in
theorem row_145 : rowB 145 = true := by decide +kernel
set_option maxRecDepth 100000 in
theorem row_146 : rowB 146 = true := by decide +kernel
set_option maxRecDepth 100000 in
theorem row_147 : rowB 147 = true := by decide +kernel
set_option maxRecDepth 100000 in
theorem row_148 : rowB 148 = true := by decide +kernel
set_option maxRecDepth 100000 in
theorem row_149 : rowB 149 = true := by decide +kernel
set_option maxRecDepth 100000 in
theorem row_150 : rowB 150 = true := by decide +kernel
set_option maxRecDepth 100000 in
theorem row_151 : rowB 151 = true := by decide +kernel
set_option maxRecDepth 100000 in
theorem row_152 : rowB 152 = true := by decide +kernel
set_option maxRecDepth 100000 in
theorem row_153 : rowB 153 = true := by decide +kernel
set_option maxRecDepth 100000 in
theorem row_154 : rowB 154 = true := by decide +kernel
set_option maxRecDepth 100000 in
theorem row_155 : rowB 155 = true := by decide +kernel
set_option maxRecDepth 100000 in
theorem row_156 : rowB 156 = true := by decide +kernel
set_option maxRecDepth 100000 in
theorem row_157 : rowB 157 = true := by decide +kernel
set_option maxRecDepth 100000 in
theorem row_158 : rowB 158 = true := by decide +kernel
set_option maxRecDepth 100000 in
theorem row_159 : rowB 159 = true := by decide +kernel
set_option maxRecDepth 100000 in
theorem row_160 : rowB 160 = true := by decide +kernel
set_option maxRecDepth 100000 in
theorem row_161 : rowB 161 = true := by decide +kernel
set_option maxRecDepth 100000 in
theorem row_162 : rowB 162 = true := by decide +kernel
set_option maxRecDepth 100000 in
theorem row_163 : rowB 163 = true := by decide +kernel
set_option maxRecDepth 100000 in
theorem row_164 : rowB 164 = true := by decide +kernel
set_option maxRecDepth 100000 in
theorem row_165 : rowB 165 = true := by decide +kernel
set_option maxRecDepth 100000 in
theorem row_166 : rowB 166 = true := by decide +kernel
set_option maxRecDepth 100000 in
theorem row_167 : rowB 167 = true := by decide +kernel
set_option maxRecDepth 100000 in
theorem row_168 : rowB 168 = true := by decide +kernel
set_option maxRecDepth 100000 in
theorem row_169 : rowB 169 = true := by decide +kernel
set_option maxRecDepth 100000 in
theorem row_170 : rowB 170 = true := by decide +kernel
set_option maxRecDepth 100000 in
theorem row_171 : rowB 171 = true := by decide +kernel
set_option maxRecDepth 100000 in
theorem row_172 : rowB 172 = true := by decide +kernel
set_option maxRecDepth 100000 in
theorem row_173 : rowB 173 = true := by decide +kernel
set_option maxRecDepth 100000 in
theorem row_174 : rowB 174 = true := by decide +kernel
set_option maxRecDepth 100000 in
theorem row_175 : rowB 175 = true := by decide +kernel
set_option maxRecDepth 100000 in
theorem row_176 : rowB 176 = true := by decide +kernel
set_option maxRecDepth 100000 in
theorem row_177 : rowB 177 = true := by decide +kernel
set_option maxRecDepth 100000 in
theorem row_178 : rowB 178 = true := by decide +kernel
set_option maxRecDepth 100000 in
theorem row_179 : rowB 179 = true := by decide +kernel
set_option maxRecDepth 100000 in
theorem row_180 : rowB 180 = true := by decide +kernel
set_option maxRecDepth 100000 in
theorem row_181 : rowB 181 = true := by decide +kernel
set_option maxRecDepth 100000 in
theorem row_182 : rowB 182 = true := by decide +kernel
set_option maxRecDepth 100000 in
theorem row_183 : rowB 183 = true := by decide +kernel
set_option maxRecDepth 100000 in
theorem row_184 : rowB 184 = true := by decide +kernel
set_option maxRecDepth 100000 in
theorem row_185 : rowB 185 = true := by decide +kernel
set_option maxRecDepth 100000 in
theorem row_186 : rowB 186 = true := by decide +kernel
set_option maxRecDepth 100000 in
theorem row_187 : rowB 187 = true := by decide +kernel
set_option maxRecDepth 100000 in
theorem row_188 : rowB 188 = true := by decide +kernel
set_option maxRecDepth 100000 in
theorem row_189 : rowB 189 = true := by decide +kernel
set_option maxRecDepth 100000 in
theorem row_190 : rowB 190 = true := by decide +kernel
set_option maxRecDepth 100000 in
theorem row_191 : rowB 191 = true := by decide +kernel
set_option maxRecDepth 100000 in
theorem row_192 : rowB 192 = true := by decide +kernel
set_option maxRecDepth 100000 in
theorem row_193 : rowB 193 = true := by decide +kernel
set_option maxRecDepth 100000 in
theorem row_194 : rowB 194 = true := by decide +kernel
set_option maxRecDepth 100000 in
theorem row_195 : rowB 195 = true := by decide +kernel
set_option maxRecDepth 100000 in
theorem row_196 : rowB 196 = true := by decide +kernel
set_option maxRecDepth 100000 in
theorem row_197 : rowB 197 = true := by decide +kernel
set_option maxRecDepth 100000 in
theorem row_198 : rowB 198 = true := by decide +kernel
set_option maxRecDepth 100000 in
theorem row_199 : rowB 199 = true := by decide +kernel
set_option maxRecDepth 100000 in
theorem row_200 : rowB 200 = true := by decide +kernel
theorem rows_D : ∀ i, i ∈ [100, 101, 102, 103, 104, 105, 106, 107, 108, 109, 110, 111, 112, 113, 114, 115, 116, 117, 118, 119, 120, 121, 122, 123, 124, 125, 126, 127, 128, 129, 130, 131, 132, 133, 134, 135, 136, 137, 138, 139, 140, 141, 142, 143, 144, 145, 146, 147, 148, 149, 150, 151, 152, 153, 154, 155, 156, 157, 158, 159, 160, 161, 162, 163, 164, 165, 166, 167, 168, 169, 170, 171, 172, 173, 174, 175, 176, 177, 178, 179, 180, 181, 182, 183, 184, 185, 186, 187, 188, 189, 190, 191, 192, 193, 194, 195, 196, 197, 198, 199, 200] → rowB i = true := by
  simp only [List.forall_mem_cons]
  exact ⟨row_100, row_101, row_102, row_103, row_104, row_105, row_106, row_107, row_108, row_109, row_110, row_111, row_112, row_113, row_114, row_115, row_116, row_117, row_118, row_119, row_120, row_121, row_122, row_123, row_124, row_125, row_126, row_127, row_128, row_129, row_130, row_131, row_132, row_133, row_134, row_135, row_136, row_137, row_138, row_139, row_140, row_141, row_142, row_143, row_144, row_145, row_146, row_147, row_148, row_149, row_150, row_151, row_152, row_153, row_154, row_155, row_156, row_157, row_158, row_159, row_160, row_161, row_162, row_163, row_164, row_165, row_166, row_167, row_168, row_169, row_170, row_171, row_172, row_173, row_174, row_175, row_176, row_177, row_178, row_179, row_180, row_181, row_182, row_183, row_184, row_185, row_186, row_187, row_188, row_189, row_190, row_191, row_192, row_193, row_194, row_195, row_196, row_197, row_198, row_199, row_200, fun _ h => by cases h⟩
theorem mem_D : ∀ k : Fin 101, (k.val + 100) ∈ [100, 101, 102, 103, 104, 105, 106, 107, 108, 109, 110, 111, 112, 113, 114, 115, 116, 117, 118, 119, 120, 121, 122, 123, 124, 125, 126, 127, 128, 129, 130, 131, 132, 133, 134, 135, 136, 137, 138, 139, 140, 141, 142, 143, 144, 145, 146, 147, 148, 149, 150, 151, 152, 153, 154, 155, 156, 157, 158, 159, 160, 161, 162, 163, 164, 165, 166, 167, 168, 169, 170, 171, 172, 173, 174, 175, 176, 177, 178, 179, 180, 181, 182, 183, 184, 185, 186, 187, 188, 189, 190, 191, 192, 193, 194, 195, 196, 197, 198, 199, 200] := by decide +kernel
theorem all_D {i : Nat} (h1 : 100 ≤ i) (h2 : i ≤ 200) : rowB i = true := by
  have := mem_D ⟨i - 100, by omega⟩
  rw [show (⟨i - 100, by omega⟩ : Fin 101).val + 100 = i by show i - 100 + 100 = i; omega] at this
  exact rows_D i this
end Go.Proofs.Ytokbpcfgeklliaa
