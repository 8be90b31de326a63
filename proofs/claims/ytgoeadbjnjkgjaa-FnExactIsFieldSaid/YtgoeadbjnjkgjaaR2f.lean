/-
  The law of IsField, walked out of the contracts.
-/
import Derived.Test.YtgoeadbjnjkgjaaGridI
namespace Go.Proofs.Ytgoeadbjnjkgjaa
open Go.RowKit
set_option linter.unusedVariables false

set_option maxHeartbeats 800000 in
theorem fnExactIsField_walk (x y : Int) (a : Option Addr) (len cap : Nat) (xs : List Nat) (w0 : World) (_ : (Lit.int .i64 x).wf = true) (_ : (Lit.int .i64 y).wf = true) (h_a : IsRow mkF w0 a len cap xs) (_ : ∀ z ∈ xs, (Lit.float .f32 z).wf = true) :
    Calls Try.prog 6 #[.agg #[.int .i64 x, .int .i64 y], .slice a len cap] w0 fun e w' => e = .returned (.bool true) ∧ Below w0.heap.size w0 w' := by
  have hm : len ≤ 9223372036854775807 := by have h1 := h_a.2.1; have h2 := h_a.2.2.1; unfold maxLen at h2; omega
  by_cases hl_a : len ≤ 1048576
  · have hlt : decide ((1048576 : Int) < (len : Int)) = false := decide_eq_false (by omega)
    go_enter Try.func6, Try.ntmps6
    go_wp2_with fail
    refine (toGrid_any _ _ _).mono ?_
    rintro e w1 ⟨rfl, st⟩
    have hb : Below w0.heap.size w0 w1 := ((Below.refl _ _).alloc (Nat.le_refl _) _).trans (st.mono (by simp))
    have hz : w0.heap.size < w1.heap.size := by have := st.size; simp at this; omega
    have hx0 : w1.cell? ⟨w0.heap.size, 0, none⟩ = some (.int .i64 x) := by rw [st.cell (p := ⟨w0.heap.size, 0, none⟩) (by simp)]; simp
    have hx1 : w1.cell? ⟨w0.heap.size, 1, none⟩ = some (.int .i64 y) := by rw [st.cell (p := ⟨w0.heap.size, 1, none⟩) (by simp)]; simp
    have hzf := hz
    clear st
    go_wp2_with fail
    refine (toF_any _ _ _ _ _ (row_below h_a hb) hl_a).mono ?_
    rintro e w2 ⟨rfl, h_ua, st⟩
    have hi_ua : w1.heap.size < w2.heap.size := (h_ua.lt _ rfl).2
    have sz2 := st.size
    replace hb := below_step hb st
    replace hx0 : w2.cell? ⟨w0.heap.size, 0, none⟩ = some (.int .i64 x) := by rw [st.cell (p := ⟨w0.heap.size, 0, none⟩) hz]; exact hx0
    replace hx1 : w2.cell? ⟨w0.heap.size, 1, none⟩ = some (.int .i64 y) := by rw [st.cell (p := ⟨w0.heap.size, 1, none⟩) hz]; exact hx1
    replace hz := Nat.lt_of_lt_of_le hz st.size
    clear st
    go_wp2_with fail
    refine (specIsField_any _ _ _ _ _ _ hl_a).mono ?_
    rintro e w3 ⟨rfl, st⟩
    have sz3 := st.size
    replace hb := below_step hb st
    replace hx0 : w3.cell? ⟨w0.heap.size, 0, none⟩ = some (.int .i64 x) := by rw [st.cell (p := ⟨w0.heap.size, 0, none⟩) hz]; exact hx0
    replace hx1 : w3.cell? ⟨w0.heap.size, 1, none⟩ = some (.int .i64 y) := by rw [st.cell (p := ⟨w0.heap.size, 1, none⟩) hz]; exact hx1
    replace hz := Nat.lt_of_lt_of_le hz st.size
    replace h_ua := own_below h_ua st
    clear st
    clear h_ua
    go_wp2_with fail
    refine (toF_any _ _ _ _ _ (row_below h_a hb) hl_a).mono ?_
    rintro e w4 ⟨rfl, h_xa, st⟩
    have hi_xa : w3.heap.size < w4.heap.size := (h_xa.lt _ rfl).2
    have sz4 := st.size
    replace hb := below_step hb st
    replace hx0 : w4.cell? ⟨w0.heap.size, 0, none⟩ = some (.int .i64 x) := by rw [st.cell (p := ⟨w0.heap.size, 0, none⟩) hz]; exact hx0
    replace hx1 : w4.cell? ⟨w0.heap.size, 1, none⟩ = some (.int .i64 y) := by rw [st.cell (p := ⟨w0.heap.size, 1, none⟩) hz]; exact hx1
    replace hz := Nat.lt_of_lt_of_le hz st.size
    clear st
    go_wp2_with fail
    refine (toGrid_any _ _ _).mono ?_
    rintro e w5 ⟨rfl, st⟩
    have sz5 := st.size
    replace hb := below_step hb st
    replace hx0 : w5.cell? ⟨w0.heap.size, 0, none⟩ = some (.int .i64 x) := by rw [st.cell (p := ⟨w0.heap.size, 0, none⟩) hz]; exact hx0
    replace hx1 : w5.cell? ⟨w0.heap.size, 1, none⟩ = some (.int .i64 y) := by rw [st.cell (p := ⟨w0.heap.size, 1, none⟩) hz]; exact hx1
    replace hz := Nat.lt_of_lt_of_le hz st.size
    replace h_xa := own_below h_xa st
    clear st
    go_wp2_with fail
    refine (implIsField_any _ _ _ _ _ _ hl_a).mono ?_
    rintro e w6 ⟨rfl, st⟩
    have sz6 := st.size
    replace hb := below_step hb st
    replace hx0 : w6.cell? ⟨w0.heap.size, 0, none⟩ = some (.int .i64 x) := by rw [st.cell (p := ⟨w0.heap.size, 0, none⟩) hz]; exact hx0
    replace hx1 : w6.cell? ⟨w0.heap.size, 1, none⟩ = some (.int .i64 y) := by rw [st.cell (p := ⟨w0.heap.size, 1, none⟩) hz]; exact hx1
    replace hz := Nat.lt_of_lt_of_le hz st.size
    replace h_xa := own_below h_xa st
    clear st
    go_wp2_with fail
    refine (toF_any _ _ _ _ _ (row_below h_a hb) hl_a).mono ?_
    rintro e w7 ⟨rfl, h_ta, st⟩
    have hi_ta : w6.heap.size < w7.heap.size := (h_ta.lt _ rfl).2
    have sz7 := st.size
    replace hb := below_step hb st
    replace hx0 : w7.cell? ⟨w0.heap.size, 0, none⟩ = some (.int .i64 x) := by rw [st.cell (p := ⟨w0.heap.size, 0, none⟩) hz]; exact hx0
    replace hx1 : w7.cell? ⟨w0.heap.size, 1, none⟩ = some (.int .i64 y) := by rw [st.cell (p := ⟨w0.heap.size, 1, none⟩) hz]; exact hx1
    replace hz := Nat.lt_of_lt_of_le hz st.size
    replace h_xa := own_below h_xa st
    clear st
    go_wp2_with fail
    refine (eqF_any _ _ _ _ _ _ _ _ _ (row_of_own h_xa).2 (row_of_own h_ta).2 rfl hl_a).mono ?_
    rintro e w8 ⟨rfl, n1, hq⟩
    have st : Below w7.heap.size w7 w8 := by rw [hq]; exact below_drewN (Below.refl _ _) _
    clear hq
    have sz8 := st.size
    replace hb := below_step hb st
    replace hx0 : w8.cell? ⟨w0.heap.size, 0, none⟩ = some (.int .i64 x) := by rw [st.cell (p := ⟨w0.heap.size, 0, none⟩) hz]; exact hx0
    replace hx1 : w8.cell? ⟨w0.heap.size, 1, none⟩ = some (.int .i64 y) := by rw [st.cell (p := ⟨w0.heap.size, 1, none⟩) hz]; exact hx1
    replace hz := Nat.lt_of_lt_of_le hz st.size
    replace h_xa := own_below h_xa st
    replace h_ta := own_below h_ta st
    clear st
    go_wp2
    go_ret
    exact ⟨rfl, hb⟩
  · have hlt : decide ((1048576 : Int) < (len : Int)) = true := decide_eq_true (by omega)
    go_enter Try.func6, Try.ntmps6
    go_wp2_with fail
    go_ret
    exact ⟨rfl, (Below.refl _ _).alloc (Nat.le_refl _) _⟩
end Go.Proofs.Ytgoeadbjnjkgjaa
