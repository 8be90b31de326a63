/-
  The eight hexadecimal digits of a number's bits: the reference's side.
-/
import Derived.Test.YtcbfefamemidnaaDoorBt
import Derived.Test.YtcbfefamemidnaaDoorHx
import Derived.Test.YtcbfefamemidnaaDoorDec
namespace Go.Proofs.YtcbfefamemidnaaDoor
open Go.RowKit Go.Lib
set_option linter.unusedVariables false
set_option linter.unusedSimpArgs false

theorem cn_lt {x : Nat} (hw : (Lit.float .f32 x).wf = true) : cn .f32 x < 4294967296 := by
  have := wf_lt32 hw
  unfold cn
  split
  · decide
  · omega
theorem and_15 (a : Nat) (h : a < 9223372036854775808) : bits .and .i64 (a : Int) 15 = ((a % 16 : Nat) : Int) := by
  have h1 := and_i64_nat a 15 h (by omega)
  have h2 : a &&& 15 = a % 16 := Nat.and_two_pow_sub_one_eq_mod a 4
  rw [h2] at h1
  exact h1
theorem pow_hex {j : Nat} (h : j < 8) : 2 ^ (28 - 4 * j) = 16 ^ (7 - j) := by
  rw [show 28 - 4 * j = 4 * (7 - j) by omega, Nat.pow_mul]
theorem and_hex {u j : Nat} (hu : u < 4294967296) (h : j < 8) : bits .and .i64 ((u : Int) / 2 ^ (28 - 4 * j)) 15 = ((u / 16 ^ (7 - j) % 16 : Nat) : Int) := by
  have e : ((u : Int) / 2 ^ (28 - 4 * j)) = ((u / 16 ^ (7 - j) : Nat) : Int) := by
    rw [← pow_hex h, Int.natCast_ediv, Int.natCast_pow]
    rfl
  rw [e]
  refine and_15 _ ?_
  have := Nat.div_le_self u (16 ^ (7 - j))
  omega
theorem hexBA_at (d : Nat) (h : d < 16) : (⟨#[48, 49, 50, 51, 52, 53, 54, 55, 56, 57, 97, 98, 99, 100, 101, 102]⟩ : ByteArray)[d]'h = hx d := by
  have := hx_fin ⟨d, h⟩
  exact Option.some.inj ((Array.getElem?_eq_getElem _).symm.trans this)
theorem cell_one_8 (w : World) (v : Value) (e : TypeId) : ∀ j u, [v][j]? = some u → (w.alloc (.cells #[v] e)).cell? ((⟨w.heap.size, 0, none⟩ : Addr).add j) = some u := by
  intro j u hj
  match j, hj with
  | 0, hj => simp at hj; subst hj; simp [Addr.add]
theorem byteCells_app1 (l : List UInt8) (c : UInt8) : byteCells (l ++ [c]) = byteCells l ++ [Value.int .u8 (c.toNat : Int)] := by simp [byteCells]
def hexRel (u : Nat) (w : World) (o i : Value) (wr : World) : Prop := ∃ (j g c : Nat), j ≤ 8 ∧ i = .int .i64 (28 - 4 * (j : Int)) ∧ o = .slice (some ⟨g, 0, none⟩) j c ∧ wr.ownsRow w.heap.size 5 1 (.slice (some ⟨g, 0, none⟩) j c) j (byteCells ((hsuf u 8).take j)) ∧ Below w.heap.size w wr
def hexMea (i : Value) : Nat := (Go.RowKit.intOf i + 4).toNat
set_option maxHeartbeats 2000000 in
theorem l01Hex_any (x : Nat) (w : World) (hw : (Lit.float .f32 x).wf = true) :
    Calls Tryd.prog 77 #[.float .f32 x] w (strPost (hsuf (cn .f32 x) 8) w) := by
  have hb := l01Bits_any x w hw
  have hu : cn .f32 x < 4294967296 := cn_lt hw
  obtain ⟨i0, hi, hz0, hz1, hz2⟩ := info_parts info_u8
  have HI := Lib.hid (And.intro hi (And.intro hz0 (And.intro hz1 hz2)))
  clear hi hz0 hz1 hz2 hw
  generalize cn .f32 x = u at *
  have HU := Lib.hid hu
  clear hu
  go_enter Tryd.func77, Tryd.ntmps77
  go_wp2_with (go_at_call 81; refine hb.mono ?_; rintro e w' ⟨rfl, rfl⟩)
  clear hb
  go_loopw [4, 5] (fun o i wr => hexRel u w o i wr) (fun _ i _ => hexMea i)
  case atStart =>
    exact ⟨0, w.heap.size, 0, Nat.zero_le _, rfl, rfl, own_some w _ _ #[] (Nat.le_refl _) (Nat.zero_le _), (Below.refl _ _).alloc (Nat.le_refl _) _⟩
  case round =>
    obtain ⟨j, g, c, hj, rfl, rfl, ho, hb⟩ := hrel
    have hsz := hb.size
    by_cases hlt : j < 8
    · have HO := Lib.hid ho
      obtain ⟨d, hd⟩ : ∃ d, d = u / 16 ^ (7 - j) % 16 := ⟨_, rfl⟩
      have hd16 : d < 16 := by omega
      have hand : bits .and .i64 ((u : Int) / 2 ^ (28 - 4 * j)) 15 = (d : Int) := by rw [hd]; exact and_hex HU.out hlt
      have HD := Lib.hid hd
      clear ho hd
      have hd' : d < (⟨#[48, 49, 50, 51, 52, 53, 54, 55, 56, 57, 97, 98, 99, 100, 101, 102]⟩ : ByteArray).size := hd16
      have hx1 : (⟨#[48, 49, 50, 51, 52, 53, 54, 55, 56, 57, 97, 98, 99, 100, 101, 102]⟩ : ByteArray)[d]'hd' = hx d := hexBA_at d hd16
      have HX := Lib.hid hx1
      clear hx1
      go_wp2_with (at_builtin; go_loud (refine wpList_append_own _ rfl (.tmp 13) (.tmp 20) 72 rfl w.heap.size 5 i0 (.int .u8 0) 1 1 Tryd.underlying72 HI.out.1 HI.out.2.1 HI.out.2.2.1 HI.out.2.2.2 rfl (by decide) _ j _ rfl (by exact HO.out.alloc _) ⟨wr.heap.size, 0, none⟩ 1 1 [Value.int .u8 (((⟨#[48, 49, 50, 51, 52, 53, 54, 55, 56, 57, 97, 98, 99, 100, 101, 102]⟩ : ByteArray)[d]'hd').toNat : Int)] rfl rfl (by exact cell_one_8 _ _ _) (by simp [Value.oneCell']) (by unfold maxLen; omega) (by omega) (by simp; omega) ?_); intro v2 w3 hown3 hgrow hnil; refine Hid.out ?_)
      refine Lib.hid ?_
      rw [HX.out] at hown3 hgrow
      have hb3 : Below w.heap.size w w3 := (hb.alloc hsz _).grown hgrow (by simp; omega) (fun q hq => (HO.out.lt q hq).1)
      have ho3 : w3.ownsRow w.heap.size 5 1 v2 (j + 1) (byteCells ((hsuf u 8).take (j + 1))) := by rw [hsuf_take u 8 j hlt, byteCells_app1, ← HD.out]; exact hown3
      rcases ho3.2 with ⟨-, h0⟩ | ⟨g2, c2, cur2, rfl, -, -, -, -, -, -⟩
      · omega
      have HO3 := Lib.hid ho3
      clear hown3 hgrow hnil ho3
      go_wp2
      go_roundw
      case rel => exact ⟨j + 1, g2, c2, by omega, by go_num, rfl, HO3.out, hb3⟩
      case measure => simp [hexMea, Go.RowKit.intOf]; omega
    · obtain rfl : j = 8 := by omega
      rw [List.take_of_length_le (by rw [hsuf_len]; exact Nat.le_refl _)] at ho
      have hcv := run_convert_bytes_back (P := Tryd.prog) wr 72 9 5 ⟨g, 0, none⟩ c (hsuf u 8) Tryd.underlying72 Tryd.underlying5 Tryd.underlying9 (fun q hq => ho.cells (g := g) rfl q _ (byteCells_at _ q hq))
      rw [hsuf_len] at hcv
      obtain ⟨l, hl⟩ : ∃ l, l = hsuf u 8 := ⟨_, rfl⟩
      rw [← hl] at hcv
      have HL := Lib.hid hl
      have HB := Lib.hid hb
      clear hl ho hb
      go_wp2
      go_ret
      exact ⟨by rw [HL.out]; rfl, HB.out⟩
end Go.Proofs.YtcbfefamemidnaaDoor
