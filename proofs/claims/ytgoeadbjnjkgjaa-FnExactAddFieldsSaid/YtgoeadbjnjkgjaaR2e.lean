/-
  The law of AddFields, walked out of the contracts.
-/
import Derived.Test.YtgoeadbjnjkgjaaR2d
namespace Go.Proofs.Ytgoeadbjnjkgjaa
open Go.RowKit
set_option linter.unusedVariables false

set_option maxHeartbeats 2000000 in
theorem fnExactAddFields_no (x y : Int) (a : Option Addr) (len cap : Nat) (xs : List Nat) (b : Option Addr) (len' cap' : Nat) (ys : List Nat) (w0 : World) (h_a : IsRow mkF w0 a len cap xs) (h_b : IsRow mkF w0 b len' cap' ys) (hl_a : len ≤ 1048576) (hl_b : len' ≤ 1048576) (hf : ¬ (fld x y len = true ∧ fld x y len' = true)) :
    Calls Try.prog 10 #[.agg #[.int .i64 x, .int .i64 y], .slice a len cap, .slice b len' cap'] w0 fun e w' => e = .returned (.bool true) ∧ Below w0.heap.size w0 w' := by
  have hlt : decide ((1048576 : Int) < (len : Int)) = false := decide_eq_false (by omega)
  have hlt' : decide ((1048576 : Int) < (len' : Int)) = false := decide_eq_false (by omega)
  have HF := Lib.hid hf
  clear hf
  go_enter Try.func10, Try.ntmps10
  go_wp2_with fail
  refine (toGrid_any _ _ _).mono ?_
  rintro e w1 ⟨rfl, st⟩
  have hb : Below w0.heap.size w0 w1 := ((Below.refl _ _).alloc (Nat.le_refl _) _).trans (st.mono (by simp))
  have hz : w0.heap.size < w1.heap.size := by have := st.size; simp at this; omega
  have hx0 : w1.cell? ⟨w0.heap.size, 0, none⟩ = some (.int .i64 x) := by rw [st.cell (p := ⟨w0.heap.size, 0, none⟩) (by simp)]; simp
  have hx1 : w1.cell? ⟨w0.heap.size, 1, none⟩ = some (.int .i64 y) := by rw [st.cell (p := ⟨w0.heap.size, 1, none⟩) (by simp)]; simp
  have hzf := hz
  clear st
  go_wp2_with fail
  refine (toF_any _ _ _ _ _ (row_below h_a hb) hl_a).mono ?_
  rintro e w2 ⟨rfl, h_ua, st⟩
  have hi_ua : w1.heap.size < w2.heap.size := (h_ua.lt _ rfl).2
  have sz2 := st.size
  replace hb := below_step hb st
  replace hx0 : w2.cell? ⟨w0.heap.size, 0, none⟩ = some (.int .i64 x) := by rw [st.cell (p := ⟨w0.heap.size, 0, none⟩) hz]; exact hx0
  replace hx1 : w2.cell? ⟨w0.heap.size, 1, none⟩ = some (.int .i64 y) := by rw [st.cell (p := ⟨w0.heap.size, 1, none⟩) hz]; exact hx1
  replace hz := Nat.lt_of_lt_of_le hz st.size
  clear st
  go_wp2_with fail
  refine (toF_any _ _ _ _ _ (row_below h_b hb) hl_b).mono ?_
  rintro e w3 ⟨rfl, h_ub, st⟩
  have hi_ub : w2.heap.size < w3.heap.size := (h_ub.lt _ rfl).2
  have sz3 := st.size
  replace hb := below_step hb st
  replace hx0 : w3.cell? ⟨w0.heap.size, 0, none⟩ = some (.int .i64 x) := by rw [st.cell (p := ⟨w0.heap.size, 0, none⟩) hz]; exact hx0
  replace hx1 : w3.cell? ⟨w0.heap.size, 1, none⟩ = some (.int .i64 y) := by rw [st.cell (p := ⟨w0.heap.size, 1, none⟩) hz]; exact hx1
  replace hz := Nat.lt_of_lt_of_le hz st.size
  replace h_ua := own_below h_ua st
  clear st
  go_wp2_with fail
  refine (specAdd_no _ _ _ _ _ _ _ _ _ HF.out hl_a hl_b).mono ?_
  rintro e w4 ⟨rfl, st⟩
  have sz4 := st.size
  replace hb := below_step hb st
  replace hx0 : w4.cell? ⟨w0.heap.size, 0, none⟩ = some (.int .i64 x) := by rw [st.cell (p := ⟨w0.heap.size, 0, none⟩) hz]; exact hx0
  replace hx1 : w4.cell? ⟨w0.heap.size, 1, none⟩ = some (.int .i64 y) := by rw [st.cell (p := ⟨w0.heap.size, 1, none⟩) hz]; exact hx1
  replace hz := Nat.lt_of_lt_of_le hz st.size
  replace h_ua := own_below h_ua st
  replace h_ub := own_below h_ub st
  clear st
  clear h_ua
  clear h_ub
  go_wp2_with fail
  refine (toF_any _ _ _ _ _ (row_below h_a hb) hl_a).mono ?_
  rintro e w5 ⟨rfl, h_xa, st⟩
  have hi_xa : w4.heap.size < w5.heap.size := (h_xa.lt _ rfl).2
  have sz5 := st.size
  replace hb := below_step hb st
  replace hx0 : w5.cell? ⟨w0.heap.size, 0, none⟩ = some (.int .i64 x) := by rw [st.cell (p := ⟨w0.heap.size, 0, none⟩) hz]; exact hx0
  replace hx1 : w5.cell? ⟨w0.heap.size, 1, none⟩ = some (.int .i64 y) := by rw [st.cell (p := ⟨w0.heap.size, 1, none⟩) hz]; exact hx1
  replace hz := Nat.lt_of_lt_of_le hz st.size
  clear st
  go_wp2_with fail
  refine (toF_any _ _ _ _ _ (row_below h_b hb) hl_b).mono ?_
  rintro e w6 ⟨rfl, h_xb, st⟩
  have hi_xb : w5.heap.size < w6.heap.size := (h_xb.lt _ rfl).2
  have sz6 := st.size
  replace hb := below_step hb st
  replace hx0 : w6.cell? ⟨w0.heap.size, 0, none⟩ = some (.int .i64 x) := by rw [st.cell (p := ⟨w0.heap.size, 0, none⟩) hz]; exact hx0
  replace hx1 : w6.cell? ⟨w0.heap.size, 1, none⟩ = some (.int .i64 y) := by rw [st.cell (p := ⟨w0.heap.size, 1, none⟩) hz]; exact hx1
  replace hz := Nat.lt_of_lt_of_le hz st.size
  replace h_xa := own_below h_xa st
  clear st
  go_wp2_with fail
  refine (toGrid_any _ _ _).mono ?_
  rintro e w7 ⟨rfl, st⟩
  have sz7 := st.size
  replace hb := below_step hb st
  replace hx0 : w7.cell? ⟨w0.heap.size, 0, none⟩ = some (.int .i64 x) := by rw [st.cell (p := ⟨w0.heap.size, 0, none⟩) hz]; exact hx0
  replace hx1 : w7.cell? ⟨w0.heap.size, 1, none⟩ = some (.int .i64 y) := by rw [st.cell (p := ⟨w0.heap.size, 1, none⟩) hz]; exact hx1
  replace hz := Nat.lt_of_lt_of_le hz st.size
  replace h_xa := own_below h_xa st
  replace h_xb := own_below h_xb st
  clear st
  go_wp2_with fail
  refine (implAdd_no _ _ _ _ _ _ _ _ _ HF.out hl_a hl_b).mono ?_
  rintro e w8 ⟨rfl, st⟩
  have sz8 := st.size
  replace hb := below_step hb st
  replace hx0 : w8.cell? ⟨w0.heap.size, 0, none⟩ = some (.int .i64 x) := by rw [st.cell (p := ⟨w0.heap.size, 0, none⟩) hz]; exact hx0
  replace hx1 : w8.cell? ⟨w0.heap.size, 1, none⟩ = some (.int .i64 y) := by rw [st.cell (p := ⟨w0.heap.size, 1, none⟩) hz]; exact hx1
  replace hz := Nat.lt_of_lt_of_le hz st.size
  replace h_xa := own_below h_xa st
  replace h_xb := own_below h_xb st
  clear st
  go_wp2_with fail
  refine (eqF_any _ _ _ _ _ _ _ _ _ (nil_row _) (nil_row _) rfl (by omega)).mono ?_
  rintro e w9 ⟨rfl, n1, hq⟩
  have st : Below w8.heap.size w8 w9 := by rw [hq]; exact below_drewN (Below.refl _ _) _
  clear hq
  have sz9 := st.size
  replace hb := below_step hb st
  replace hx0 : w9.cell? ⟨w0.heap.size, 0, none⟩ = some (.int .i64 x) := by rw [st.cell (p := ⟨w0.heap.size, 0, none⟩) hz]; exact hx0
  replace hx1 : w9.cell? ⟨w0.heap.size, 1, none⟩ = some (.int .i64 y) := by rw [st.cell (p := ⟨w0.heap.size, 1, none⟩) hz]; exact hx1
  replace hz := Nat.lt_of_lt_of_le hz st.size
  replace h_xa := own_below h_xa st
  replace h_xb := own_below h_xb st
  clear st
  go_wp2_with fail
  refine (toF_any _ _ _ _ _ (row_below h_a hb) hl_a).mono ?_
  rintro e w10 ⟨rfl, h_ta, st⟩
  have hi_ta : w9.heap.size < w10.heap.size := (h_ta.lt _ rfl).2
  have sz10 := st.size
  replace hb := below_step hb st
  replace hx0 : w10.cell? ⟨w0.heap.size, 0, none⟩ = some (.int .i64 x) := by rw [st.cell (p := ⟨w0.heap.size, 0, none⟩) hz]; exact hx0
  replace hx1 : w10.cell? ⟨w0.heap.size, 1, none⟩ = some (.int .i64 y) := by rw [st.cell (p := ⟨w0.heap.size, 1, none⟩) hz]; exact hx1
  replace hz := Nat.lt_of_lt_of_le hz st.size
  replace h_xa := own_below h_xa st
  replace h_xb := own_below h_xb st
  clear st
  go_wp2_with fail
  refine (eqF_any _ _ _ _ _ _ _ _ _ (row_of_own h_xa).2 (row_of_own h_ta).2 rfl hl_a).mono ?_
  rintro e w11 ⟨rfl, n2, hq⟩
  have st : Below w10.heap.size w10 w11 := by rw [hq]; exact below_drewN (Below.refl _ _) _
  clear hq
  have sz11 := st.size
  replace hb := below_step hb st
  replace hx0 : w11.cell? ⟨w0.heap.size, 0, none⟩ = some (.int .i64 x) := by rw [st.cell (p := ⟨w0.heap.size, 0, none⟩) hz]; exact hx0
  replace hx1 : w11.cell? ⟨w0.heap.size, 1, none⟩ = some (.int .i64 y) := by rw [st.cell (p := ⟨w0.heap.size, 1, none⟩) hz]; exact hx1
  replace hz := Nat.lt_of_lt_of_le hz st.size
  replace h_xa := own_below h_xa st
  replace h_xb := own_below h_xb st
  replace h_ta := own_below h_ta st
  clear st
  clear h_ta
  go_wp2_with fail
  refine (toF_any _ _ _ _ _ (row_below h_b hb) hl_b).mono ?_
  rintro e w12 ⟨rfl, h_tb, st⟩
  have hi_tb : w11.heap.size < w12.heap.size := (h_tb.lt _ rfl).2
  have sz12 := st.size
  replace hb := below_step hb st
  replace hx0 : w12.cell? ⟨w0.heap.size, 0, none⟩ = some (.int .i64 x) := by rw [st.cell (p := ⟨w0.heap.size, 0, none⟩) hz]; exact hx0
  replace hx1 : w12.cell? ⟨w0.heap.size, 1, none⟩ = some (.int .i64 y) := by rw [st.cell (p := ⟨w0.heap.size, 1, none⟩) hz]; exact hx1
  replace hz := Nat.lt_of_lt_of_le hz st.size
  replace h_xa := own_below h_xa st
  replace h_xb := own_below h_xb st
  clear st
  go_wp2_with fail
  refine (eqF_any _ _ _ _ _ _ _ _ _ (row_of_own h_xb).2 (row_of_own h_tb).2 rfl hl_b).mono ?_
  rintro e w13 ⟨rfl, n3, hq⟩
  have st : Below w12.heap.size w12 w13 := by rw [hq]; exact below_drewN (Below.refl _ _) _
  clear hq
  have sz13 := st.size
  replace hb := below_step hb st
  replace hx0 : w13.cell? ⟨w0.heap.size, 0, none⟩ = some (.int .i64 x) := by rw [st.cell (p := ⟨w0.heap.size, 0, none⟩) hz]; exact hx0
  replace hx1 : w13.cell? ⟨w0.heap.size, 1, none⟩ = some (.int .i64 y) := by rw [st.cell (p := ⟨w0.heap.size, 1, none⟩) hz]; exact hx1
  replace hz := Nat.lt_of_lt_of_le hz st.size
  replace h_xa := own_below h_xa st
  replace h_xb := own_below h_xb st
  replace h_tb := own_below h_tb st
  clear st
  clear h_tb
  go_wp2_with fail
  refine (markF_any _ (some ⟨w4.heap.size, 0, none⟩) len len xs (1) _ h_xa hl_a (by omega) (by omega)).mono ?_
  rintro e w14 ⟨rfl, hmk, hg⟩
  have lob : w0.heap.size < w4.heap.size := by omega
  replace hb := hb.trans ((Below.refl w0.heap.size w13).grown hg hb.size (by intro k hk; simp only [Value.ownBlock, Option.some.injEq] at hk; omega))
  replace hx0 := hg.cell hx0 (by simp only [Value.ownBlock, ne_eq, Option.some.injEq]; omega)
  replace hx1 := hg.cell hx1 (by simp only [Value.ownBlock, ne_eq, Option.some.injEq]; omega)
  have sz14 := hg.size
  replace hz := Nat.lt_of_lt_of_le hz hg.size
  replace h_xb := h_xb.kept hg (.inr (by simp only [Value.ownBlock, ne_eq, Option.some.injEq]; omega))
  clear hg lob h_xa
  have h_xa := hmk
  clear hmk
  go_wp2_with fail
  refine (markF_any _ (some ⟨w5.heap.size, 0, none⟩) len' len' ys (1 + (len : Int)) _ h_xb hl_b (by omega) (by omega)).mono ?_
  rintro e w15 ⟨rfl, hmk, hg⟩
  have lob : w0.heap.size < w5.heap.size := by omega
  replace hb := hb.trans ((Below.refl w0.heap.size w14).grown hg hb.size (by intro k hk; simp only [Value.ownBlock, Option.some.injEq] at hk; omega))
  replace hx0 := hg.cell hx0 (by simp only [Value.ownBlock, ne_eq, Option.some.injEq]; omega)
  replace hx1 := hg.cell hx1 (by simp only [Value.ownBlock, ne_eq, Option.some.injEq]; omega)
  have sz15 := hg.size
  replace hz := Nat.lt_of_lt_of_le hz hg.size
  replace h_xa := h_xa.kept hg (.inr (by simp only [Value.ownBlock, ne_eq, Option.some.injEq]; omega))
  clear hg lob h_xb
  have h_xb := hmk
  clear hmk
  go_wp2_with fail
  refine (eqF_any _ _ _ _ _ _ _ _ _ (nil_row _) (nil_row _) rfl (by omega)).mono ?_
  rintro e w16 ⟨rfl, n4, hq⟩
  have st : Below w15.heap.size w15 w16 := by rw [hq]; exact below_drewN (Below.refl _ _) _
  clear hq
  have sz16 := st.size
  replace hb := below_step hb st
  replace hx0 : w16.cell? ⟨w0.heap.size, 0, none⟩ = some (.int .i64 x) := by rw [st.cell (p := ⟨w0.heap.size, 0, none⟩) hz]; exact hx0
  replace hx1 : w16.cell? ⟨w0.heap.size, 1, none⟩ = some (.int .i64 y) := by rw [st.cell (p := ⟨w0.heap.size, 1, none⟩) hz]; exact hx1
  replace hz := Nat.lt_of_lt_of_le hz st.size
  replace h_xa := own_below h_xa st
  replace h_xb := own_below h_xb st
  clear st
  go_wp2_with fail
  refine (markNil_any 1 _).mono ?_
  rintro e w' ⟨rfl, rfl⟩
  go_wp2_with fail
  refine (heldNil_any 1 _).mono ?_
  rintro e w' ⟨rfl, rfl⟩
  go_wp2_with fail
  refine (toGrid_any _ _ _).mono ?_
  rintro e w17 ⟨rfl, st⟩
  have sz17 := st.size
  replace hb := below_step hb st
  replace hx0 : w17.cell? ⟨w0.heap.size, 0, none⟩ = some (.int .i64 x) := by rw [st.cell (p := ⟨w0.heap.size, 0, none⟩) hz]; exact hx0
  replace hx1 : w17.cell? ⟨w0.heap.size, 1, none⟩ = some (.int .i64 y) := by rw [st.cell (p := ⟨w0.heap.size, 1, none⟩) hz]; exact hx1
  replace hz := Nat.lt_of_lt_of_le hz st.size
  replace h_xa := own_below h_xa st
  replace h_xb := own_below h_xb st
  clear st
  go_wp2_with fail
  refine (toF_any _ _ _ _ _ (row_below h_a hb) hl_a).mono ?_
  rintro e w18 ⟨rfl, h_sa, st⟩
  have hi_sa : w17.heap.size < w18.heap.size := (h_sa.lt _ rfl).2
  have sz18 := st.size
  replace hb := below_step hb st
  replace hx0 : w18.cell? ⟨w0.heap.size, 0, none⟩ = some (.int .i64 x) := by rw [st.cell (p := ⟨w0.heap.size, 0, none⟩) hz]; exact hx0
  replace hx1 : w18.cell? ⟨w0.heap.size, 1, none⟩ = some (.int .i64 y) := by rw [st.cell (p := ⟨w0.heap.size, 1, none⟩) hz]; exact hx1
  replace hz := Nat.lt_of_lt_of_le hz st.size
  replace h_xa := own_below h_xa st
  replace h_xb := own_below h_xb st
  clear st
  go_wp2_with fail
  refine (toF_any _ _ _ _ _ (row_below h_b hb) hl_b).mono ?_
  rintro e w19 ⟨rfl, h_sb, st⟩
  have hi_sb : w18.heap.size < w19.heap.size := (h_sb.lt _ rfl).2
  have sz19 := st.size
  replace hb := below_step hb st
  replace hx0 : w19.cell? ⟨w0.heap.size, 0, none⟩ = some (.int .i64 x) := by rw [st.cell (p := ⟨w0.heap.size, 0, none⟩) hz]; exact hx0
  replace hx1 : w19.cell? ⟨w0.heap.size, 1, none⟩ = some (.int .i64 y) := by rw [st.cell (p := ⟨w0.heap.size, 1, none⟩) hz]; exact hx1
  replace hz := Nat.lt_of_lt_of_le hz st.size
  replace h_xa := own_below h_xa st
  replace h_xb := own_below h_xb st
  replace h_sa := own_below h_sa st
  clear st
  go_wp2_with fail
  refine (implAdd_no _ _ _ _ _ _ _ _ _ HF.out hl_a hl_b).mono ?_
  rintro e w20 ⟨rfl, st⟩
  have sz20 := st.size
  replace hb := below_step hb st
  replace hx0 : w20.cell? ⟨w0.heap.size, 0, none⟩ = some (.int .i64 x) := by rw [st.cell (p := ⟨w0.heap.size, 0, none⟩) hz]; exact hx0
  replace hx1 : w20.cell? ⟨w0.heap.size, 1, none⟩ = some (.int .i64 y) := by rw [st.cell (p := ⟨w0.heap.size, 1, none⟩) hz]; exact hx1
  replace hz := Nat.lt_of_lt_of_le hz st.size
  replace h_xa := own_below h_xa st
  replace h_xb := own_below h_xb st
  replace h_sa := own_below h_sa st
  replace h_sb := own_below h_sb st
  clear st
  go_wp2_with fail
  refine (eqF_any _ _ _ _ _ _ _ _ _ (nil_row _) (nil_row _) rfl (by omega)).mono ?_
  rintro e w21 ⟨rfl, n5, hq⟩
  have st : Below w20.heap.size w20 w21 := by rw [hq]; exact below_drewN (Below.refl _ _) _
  clear hq
  have sz21 := st.size
  replace hb := below_step hb st
  replace hx0 : w21.cell? ⟨w0.heap.size, 0, none⟩ = some (.int .i64 x) := by rw [st.cell (p := ⟨w0.heap.size, 0, none⟩) hz]; exact hx0
  replace hx1 : w21.cell? ⟨w0.heap.size, 1, none⟩ = some (.int .i64 y) := by rw [st.cell (p := ⟨w0.heap.size, 1, none⟩) hz]; exact hx1
  replace hz := Nat.lt_of_lt_of_le hz st.size
  replace h_xa := own_below h_xa st
  replace h_xb := own_below h_xb st
  replace h_sa := own_below h_sa st
  replace h_sb := own_below h_sb st
  clear st
  go_wp2_with fail
  refine (heldNil_any 1 _).mono ?_
  rintro e w' ⟨rfl, rfl⟩
  go_wp2
  go_ret
  exact ⟨rfl, hb⟩

set_option maxHeartbeats 2000000 in
theorem fnExactAddFields_yes (x y : Int) (a : Option Addr) (len cap : Nat) (xs : List Nat) (b : Option Addr) (cap' : Nat) (ys : List Nat) (w0 : World) (h_a : IsRow mkF w0 a len cap xs) (h_b : IsRow mkF w0 b len cap' ys) (hl_a : len ≤ 1048576) (hf : fld x y len = true) :
    Calls Try.prog 10 #[.agg #[.int .i64 x, .int .i64 y], .slice a len cap, .slice b len cap'] w0 fun e w' => e = .returned (.bool true) ∧ Below w0.heap.size w0 w' := by
  have hl_b := hl_a
  have hn := (fld_pos hf).1
  have hlt : decide ((1048576 : Int) < (len : Int)) = false := decide_eq_false (by omega)
  go_enter Try.func10, Try.ntmps10
  go_wp2_with fail
  refine (toGrid_any _ _ _).mono ?_
  rintro e w1 ⟨rfl, st⟩
  have hb : Below w0.heap.size w0 w1 := ((Below.refl _ _).alloc (Nat.le_refl _) _).trans (st.mono (by simp))
  have hz : w0.heap.size < w1.heap.size := by have := st.size; simp at this; omega
  have hx0 : w1.cell? ⟨w0.heap.size, 0, none⟩ = some (.int .i64 x) := by rw [st.cell (p := ⟨w0.heap.size, 0, none⟩) (by simp)]; simp
  have hx1 : w1.cell? ⟨w0.heap.size, 1, none⟩ = some (.int .i64 y) := by rw [st.cell (p := ⟨w0.heap.size, 1, none⟩) (by simp)]; simp
  have hzf := hz
  clear st
  go_wp2_with fail
  refine (toF_any _ _ _ _ _ (row_below h_a hb) hl_a).mono ?_
  rintro e w2 ⟨rfl, h_ua, st⟩
  have hi_ua : w1.heap.size < w2.heap.size := (h_ua.lt _ rfl).2
  have sz2 := st.size
  replace hb := below_step hb st
  replace hx0 : w2.cell? ⟨w0.heap.size, 0, none⟩ = some (.int .i64 x) := by rw [st.cell (p := ⟨w0.heap.size, 0, none⟩) hz]; exact hx0
  replace hx1 : w2.cell? ⟨w0.heap.size, 1, none⟩ = some (.int .i64 y) := by rw [st.cell (p := ⟨w0.heap.size, 1, none⟩) hz]; exact hx1
  replace hz := Nat.lt_of_lt_of_le hz st.size
  clear st
  go_wp2_with fail
  refine (toF_any _ _ _ _ _ (row_below h_b hb) hl_b).mono ?_
  rintro e w3 ⟨rfl, h_ub, st⟩
  have hi_ub : w2.heap.size < w3.heap.size := (h_ub.lt _ rfl).2
  have sz3 := st.size
  replace hb := below_step hb st
  replace hx0 : w3.cell? ⟨w0.heap.size, 0, none⟩ = some (.int .i64 x) := by rw [st.cell (p := ⟨w0.heap.size, 0, none⟩) hz]; exact hx0
  replace hx1 : w3.cell? ⟨w0.heap.size, 1, none⟩ = some (.int .i64 y) := by rw [st.cell (p := ⟨w0.heap.size, 1, none⟩) hz]; exact hx1
  replace hz := Nat.lt_of_lt_of_le hz st.size
  replace h_ua := own_below h_ua st
  clear st
  go_wp2_with fail
  refine (specAdd_yes _ _ _ _ _ _ _ _ _ _ (row_of_own h_ua).2 (row_of_own h_ub).2 hf hl_a).mono ?_
  rintro e w4 ⟨v, lW, rfl, h_W, hm, st⟩
  have MW := Lib.hid hm
  clear hm
  obtain ⟨gW, cW, rfl⟩ := own_shape h_W hn
  have lo_W := (h_W.lt _ rfl).1
  have hi_W := (h_W.lt _ rfl).2
  have sz4 := st.size
  replace hb := below_step hb st
  replace hx0 : w4.cell? ⟨w0.heap.size, 0, none⟩ = some (.int .i64 x) := by rw [st.cell (p := ⟨w0.heap.size, 0, none⟩) hz]; exact hx0
  replace hx1 : w4.cell? ⟨w0.heap.size, 1, none⟩ = some (.int .i64 y) := by rw [st.cell (p := ⟨w0.heap.size, 1, none⟩) hz]; exact hx1
  replace hz := Nat.lt_of_lt_of_le hz st.size
  replace h_ua := own_below h_ua st
  replace h_ub := own_below h_ub st
  clear st
  clear h_ua
  clear h_ub
  go_wp2_with fail
  refine (toF_any _ _ _ _ _ (row_below h_a hb) hl_a).mono ?_
  rintro e w5 ⟨rfl, h_xa, st⟩
  have hi_xa : w4.heap.size < w5.heap.size := (h_xa.lt _ rfl).2
  have sz5 := st.size
  replace hb := below_step hb st
  replace hx0 : w5.cell? ⟨w0.heap.size, 0, none⟩ = some (.int .i64 x) := by rw [st.cell (p := ⟨w0.heap.size, 0, none⟩) hz]; exact hx0
  replace hx1 : w5.cell? ⟨w0.heap.size, 1, none⟩ = some (.int .i64 y) := by rw [st.cell (p := ⟨w0.heap.size, 1, none⟩) hz]; exact hx1
  replace hz := Nat.lt_of_lt_of_le hz st.size
  replace h_W := own_below h_W st
  clear st
  go_wp2_with fail
  refine (toF_any _ _ _ _ _ (row_below h_b hb) hl_b).mono ?_
  rintro e w6 ⟨rfl, h_xb, st⟩
  have hi_xb : w5.heap.size < w6.heap.size := (h_xb.lt _ rfl).2
  have sz6 := st.size
  replace hb := below_step hb st
  replace hx0 : w6.cell? ⟨w0.heap.size, 0, none⟩ = some (.int .i64 x) := by rw [st.cell (p := ⟨w0.heap.size, 0, none⟩) hz]; exact hx0
  replace hx1 : w6.cell? ⟨w0.heap.size, 1, none⟩ = some (.int .i64 y) := by rw [st.cell (p := ⟨w0.heap.size, 1, none⟩) hz]; exact hx1
  replace hz := Nat.lt_of_lt_of_le hz st.size
  replace h_W := own_below h_W st
  replace h_xa := own_below h_xa st
  clear st
  go_wp2_with fail
  refine (toGrid_any _ _ _).mono ?_
  rintro e w7 ⟨rfl, st⟩
  have sz7 := st.size
  replace hb := below_step hb st
  replace hx0 : w7.cell? ⟨w0.heap.size, 0, none⟩ = some (.int .i64 x) := by rw [st.cell (p := ⟨w0.heap.size, 0, none⟩) hz]; exact hx0
  replace hx1 : w7.cell? ⟨w0.heap.size, 1, none⟩ = some (.int .i64 y) := by rw [st.cell (p := ⟨w0.heap.size, 1, none⟩) hz]; exact hx1
  replace hz := Nat.lt_of_lt_of_le hz st.size
  replace h_W := own_below h_W st
  replace h_xa := own_below h_xa st
  replace h_xb := own_below h_xb st
  clear st
  go_wp2_with fail
  refine (implAdd_yes _ _ _ _ _ _ _ _ _ _ (row_of_own h_xa).2 (row_of_own h_xb).2 hf hl_a hn).mono ?_
  rintro e w8 ⟨v, lG, rfl, h_G, hm, st⟩
  have MG := Lib.hid hm
  clear hm
  obtain ⟨gG, cG, rfl⟩ := own_shape h_G hn
  have lo_G := (h_G.lt _ rfl).1
  have hi_G := (h_G.lt _ rfl).2
  have sz8 := st.size
  replace hb := below_step hb st
  replace hx0 : w8.cell? ⟨w0.heap.size, 0, none⟩ = some (.int .i64 x) := by rw [st.cell (p := ⟨w0.heap.size, 0, none⟩) hz]; exact hx0
  replace hx1 : w8.cell? ⟨w0.heap.size, 1, none⟩ = some (.int .i64 y) := by rw [st.cell (p := ⟨w0.heap.size, 1, none⟩) hz]; exact hx1
  replace hz := Nat.lt_of_lt_of_le hz st.size
  replace h_W := own_below h_W st
  replace h_xa := own_below h_xa st
  replace h_xb := own_below h_xb st
  clear st
  go_wp2_with fail
  refine (eqF_any _ _ _ _ _ _ _ _ _ (row_of_own h_G).2 (row_of_own h_W).2 (MG.out.trans MW.out.symm) hl_a).mono ?_
  rintro e w9 ⟨rfl, n1, hq⟩
  have st : Below w8.heap.size w8 w9 := by rw [hq]; exact below_drewN (Below.refl _ _) _
  clear hq
  have sz9 := st.size
  replace hb := below_step hb st
  replace hx0 : w9.cell? ⟨w0.heap.size, 0, none⟩ = some (.int .i64 x) := by rw [st.cell (p := ⟨w0.heap.size, 0, none⟩) hz]; exact hx0
  replace hx1 : w9.cell? ⟨w0.heap.size, 1, none⟩ = some (.int .i64 y) := by rw [st.cell (p := ⟨w0.heap.size, 1, none⟩) hz]; exact hx1
  replace hz := Nat.lt_of_lt_of_le hz st.size
  replace h_W := own_below h_W st
  replace h_xa := own_below h_xa st
  replace h_xb := own_below h_xb st
  replace h_G := own_below h_G st
  clear st
  go_wp2_with fail
  refine (toF_any _ _ _ _ _ (row_below h_a hb) hl_a).mono ?_
  rintro e w10 ⟨rfl, h_ta, st⟩
  have hi_ta : w9.heap.size < w10.heap.size := (h_ta.lt _ rfl).2
  have sz10 := st.size
  replace hb := below_step hb st
  replace hx0 : w10.cell? ⟨w0.heap.size, 0, none⟩ = some (.int .i64 x) := by rw [st.cell (p := ⟨w0.heap.size, 0, none⟩) hz]; exact hx0
  replace hx1 : w10.cell? ⟨w0.heap.size, 1, none⟩ = some (.int .i64 y) := by rw [st.cell (p := ⟨w0.heap.size, 1, none⟩) hz]; exact hx1
  replace hz := Nat.lt_of_lt_of_le hz st.size
  replace h_W := own_below h_W st
  replace h_xa := own_below h_xa st
  replace h_xb := own_below h_xb st
  replace h_G := own_below h_G st
  clear st
  go_wp2_with fail
  refine (eqF_any _ _ _ _ _ _ _ _ _ (row_of_own h_xa).2 (row_of_own h_ta).2 rfl hl_a).mono ?_
  rintro e w11 ⟨rfl, n2, hq⟩
  have st : Below w10.heap.size w10 w11 := by rw [hq]; exact below_drewN (Below.refl _ _) _
  clear hq
  have sz11 := st.size
  replace hb := below_step hb st
  replace hx0 : w11.cell? ⟨w0.heap.size, 0, none⟩ = some (.int .i64 x) := by rw [st.cell (p := ⟨w0.heap.size, 0, none⟩) hz]; exact hx0
  replace hx1 : w11.cell? ⟨w0.heap.size, 1, none⟩ = some (.int .i64 y) := by rw [st.cell (p := ⟨w0.heap.size, 1, none⟩) hz]; exact hx1
  replace hz := Nat.lt_of_lt_of_le hz st.size
  replace h_W := own_below h_W st
  replace h_xa := own_below h_xa st
  replace h_xb := own_below h_xb st
  replace h_G := own_below h_G st
  replace h_ta := own_below h_ta st
  clear st
  clear h_ta
  go_wp2_with fail
  refine (toF_any _ _ _ _ _ (row_below h_b hb) hl_b).mono ?_
  rintro e w12 ⟨rfl, h_tb, st⟩
  have hi_tb : w11.heap.size < w12.heap.size := (h_tb.lt _ rfl).2
  have sz12 := st.size
  replace hb := below_step hb st
  replace hx0 : w12.cell? ⟨w0.heap.size, 0, none⟩ = some (.int .i64 x) := by rw [st.cell (p := ⟨w0.heap.size, 0, none⟩) hz]; exact hx0
  replace hx1 : w12.cell? ⟨w0.heap.size, 1, none⟩ = some (.int .i64 y) := by rw [st.cell (p := ⟨w0.heap.size, 1, none⟩) hz]; exact hx1
  replace hz := Nat.lt_of_lt_of_le hz st.size
  replace h_W := own_below h_W st
  replace h_xa := own_below h_xa st
  replace h_xb := own_below h_xb st
  replace h_G := own_below h_G st
  clear st
  go_wp2_with fail
  refine (eqF_any _ _ _ _ _ _ _ _ _ (row_of_own h_xb).2 (row_of_own h_tb).2 rfl hl_b).mono ?_
  rintro e w13 ⟨rfl, n3, hq⟩
  have st : Below w12.heap.size w12 w13 := by rw [hq]; exact below_drewN (Below.refl _ _) _
  clear hq
  have sz13 := st.size
  replace hb := below_step hb st
  replace hx0 : w13.cell? ⟨w0.heap.size, 0, none⟩ = some (.int .i64 x) := by rw [st.cell (p := ⟨w0.heap.size, 0, none⟩) hz]; exact hx0
  replace hx1 : w13.cell? ⟨w0.heap.size, 1, none⟩ = some (.int .i64 y) := by rw [st.cell (p := ⟨w0.heap.size, 1, none⟩) hz]; exact hx1
  replace hz := Nat.lt_of_lt_of_le hz st.size
  replace h_W := own_below h_W st
  replace h_xa := own_below h_xa st
  replace h_xb := own_below h_xb st
  replace h_G := own_below h_G st
  replace h_tb := own_below h_tb st
  clear st
  clear h_tb
  go_wp2_with fail
  refine (markF_any _ (some ⟨w4.heap.size, 0, none⟩) len len xs (1) _ h_xa hl_a (by omega) (by omega)).mono ?_
  rintro e w14 ⟨rfl, hmk, hg⟩
  have lob : w0.heap.size < w4.heap.size := by omega
  replace hb := hb.trans ((Below.refl w0.heap.size w13).grown hg hb.size (by intro k hk; simp only [Value.ownBlock, Option.some.injEq] at hk; omega))
  replace hx0 := hg.cell hx0 (by simp only [Value.ownBlock, ne_eq, Option.some.injEq]; omega)
  replace hx1 := hg.cell hx1 (by simp only [Value.ownBlock, ne_eq, Option.some.injEq]; omega)
  have sz14 := hg.size
  replace hz := Nat.lt_of_lt_of_le hz hg.size
  replace h_W := h_W.kept hg (.inr (by simp only [Value.ownBlock, ne_eq, Option.some.injEq]; omega))
  replace h_xb := h_xb.kept hg (.inr (by simp only [Value.ownBlock, ne_eq, Option.some.injEq]; omega))
  replace h_G := h_G.kept hg (.inr (by simp only [Value.ownBlock, ne_eq, Option.some.injEq]; omega))
  clear hg lob h_xa
  have h_xa := hmk
  clear hmk
  go_wp2_with fail
  refine (markF_any _ (some ⟨w5.heap.size, 0, none⟩) len len ys (1 + (len : Int)) _ h_xb hl_b (by omega) (by omega)).mono ?_
  rintro e w15 ⟨rfl, hmk, hg⟩
  have lob : w0.heap.size < w5.heap.size := by omega
  replace hb := hb.trans ((Below.refl w0.heap.size w14).grown hg hb.size (by intro k hk; simp only [Value.ownBlock, Option.some.injEq] at hk; omega))
  replace hx0 := hg.cell hx0 (by simp only [Value.ownBlock, ne_eq, Option.some.injEq]; omega)
  replace hx1 := hg.cell hx1 (by simp only [Value.ownBlock, ne_eq, Option.some.injEq]; omega)
  have sz15 := hg.size
  replace hz := Nat.lt_of_lt_of_le hz hg.size
  replace h_W := h_W.kept hg (.inr (by simp only [Value.ownBlock, ne_eq, Option.some.injEq]; omega))
  replace h_xa := h_xa.kept hg (.inr (by simp only [Value.ownBlock, ne_eq, Option.some.injEq]; omega))
  replace h_G := h_G.kept hg (.inr (by simp only [Value.ownBlock, ne_eq, Option.some.injEq]; omega))
  clear hg lob h_xb
  have h_xb := hmk
  clear hmk
  go_wp2_with fail
  refine (eqF_any _ _ _ _ _ _ _ _ _ (row_of_own h_G).2 (row_of_own h_W).2 (MG.out.trans MW.out.symm) hl_a).mono ?_
  rintro e w16 ⟨rfl, n4, hq⟩
  have st : Below w15.heap.size w15 w16 := by rw [hq]; exact below_drewN (Below.refl _ _) _
  clear hq
  have sz16 := st.size
  replace hb := below_step hb st
  replace hx0 : w16.cell? ⟨w0.heap.size, 0, none⟩ = some (.int .i64 x) := by rw [st.cell (p := ⟨w0.heap.size, 0, none⟩) hz]; exact hx0
  replace hx1 : w16.cell? ⟨w0.heap.size, 1, none⟩ = some (.int .i64 y) := by rw [st.cell (p := ⟨w0.heap.size, 1, none⟩) hz]; exact hx1
  replace hz := Nat.lt_of_lt_of_le hz st.size
  replace h_W := own_below h_W st
  replace h_xa := own_below h_xa st
  replace h_xb := own_below h_xb st
  replace h_G := own_below h_G st
  clear st
  go_wp2_with fail
  refine (markF_any _ (some ⟨gG, 0, none⟩) len cG lG 1 _ h_G hl_a (by omega) (by omega)).mono ?_
  rintro e w17 ⟨rfl, hmk, hg⟩
  have lob : w0.heap.size < gG := by omega
  replace hb := hb.trans ((Below.refl w0.heap.size w16).grown hg hb.size (by intro k hk; simp only [Value.ownBlock, Option.some.injEq] at hk; omega))
  replace hx0 := hg.cell hx0 (by simp only [Value.ownBlock, ne_eq, Option.some.injEq]; omega)
  replace hx1 := hg.cell hx1 (by simp only [Value.ownBlock, ne_eq, Option.some.injEq]; omega)
  have sz17 := hg.size
  replace hz := Nat.lt_of_lt_of_le hz hg.size
  replace h_W := h_W.kept hg (.inr (by simp only [Value.ownBlock, ne_eq, Option.some.injEq]; omega))
  replace h_xa := h_xa.kept hg (.inr (by simp only [Value.ownBlock, ne_eq, Option.some.injEq]; omega))
  replace h_xb := h_xb.kept hg (.inr (by simp only [Value.ownBlock, ne_eq, Option.some.injEq]; omega))
  clear hg lob h_G
  have h_G := hmk
  clear hmk
  go_wp2_with fail
  refine (heldF_any _ _ _ 1 _ (row_of_own h_G).2 hl_a (by omega) (by omega)).mono ?_
  rintro e w' ⟨rfl, rfl⟩
  go_wp2_with fail
  refine (toGrid_any _ _ _).mono ?_
  rintro e w18 ⟨rfl, st⟩
  have sz18 := st.size
  replace hb := below_step hb st
  replace hx0 : w18.cell? ⟨w0.heap.size, 0, none⟩ = some (.int .i64 x) := by rw [st.cell (p := ⟨w0.heap.size, 0, none⟩) hz]; exact hx0
  replace hx1 : w18.cell? ⟨w0.heap.size, 1, none⟩ = some (.int .i64 y) := by rw [st.cell (p := ⟨w0.heap.size, 1, none⟩) hz]; exact hx1
  replace hz := Nat.lt_of_lt_of_le hz st.size
  replace h_W := own_below h_W st
  replace h_xa := own_below h_xa st
  replace h_xb := own_below h_xb st
  replace h_G := own_below h_G st
  clear st
  go_wp2_with fail
  refine (toF_any _ _ _ _ _ (row_below h_a hb) hl_a).mono ?_
  rintro e w19 ⟨rfl, h_sa, st⟩
  have hi_sa : w18.heap.size < w19.heap.size := (h_sa.lt _ rfl).2
  have sz19 := st.size
  replace hb := below_step hb st
  replace hx0 : w19.cell? ⟨w0.heap.size, 0, none⟩ = some (.int .i64 x) := by rw [st.cell (p := ⟨w0.heap.size, 0, none⟩) hz]; exact hx0
  replace hx1 : w19.cell? ⟨w0.heap.size, 1, none⟩ = some (.int .i64 y) := by rw [st.cell (p := ⟨w0.heap.size, 1, none⟩) hz]; exact hx1
  replace hz := Nat.lt_of_lt_of_le hz st.size
  replace h_W := own_below h_W st
  replace h_xa := own_below h_xa st
  replace h_xb := own_below h_xb st
  replace h_G := own_below h_G st
  clear st
  go_wp2_with fail
  refine (toF_any _ _ _ _ _ (row_below h_b hb) hl_b).mono ?_
  rintro e w20 ⟨rfl, h_sb, st⟩
  have hi_sb : w19.heap.size < w20.heap.size := (h_sb.lt _ rfl).2
  have sz20 := st.size
  replace hb := below_step hb st
  replace hx0 : w20.cell? ⟨w0.heap.size, 0, none⟩ = some (.int .i64 x) := by rw [st.cell (p := ⟨w0.heap.size, 0, none⟩) hz]; exact hx0
  replace hx1 : w20.cell? ⟨w0.heap.size, 1, none⟩ = some (.int .i64 y) := by rw [st.cell (p := ⟨w0.heap.size, 1, none⟩) hz]; exact hx1
  replace hz := Nat.lt_of_lt_of_le hz st.size
  replace h_W := own_below h_W st
  replace h_xa := own_below h_xa st
  replace h_xb := own_below h_xb st
  replace h_G := own_below h_G st
  replace h_sa := own_below h_sa st
  clear st
  go_wp2_with fail
  refine (implAdd_yes _ _ _ _ _ _ _ _ _ _ (row_of_own h_sa).2 (row_of_own h_sb).2 hf hl_a hn).mono ?_
  rintro e w21 ⟨v, lH, rfl, h_H, hm, st⟩
  have MH := Lib.hid hm
  clear hm
  obtain ⟨gH, cH, rfl⟩ := own_shape h_H hn
  have lo_H := (h_H.lt _ rfl).1
  have hi_H := (h_H.lt _ rfl).2
  have sz21 := st.size
  replace hb := below_step hb st
  replace hx0 : w21.cell? ⟨w0.heap.size, 0, none⟩ = some (.int .i64 x) := by rw [st.cell (p := ⟨w0.heap.size, 0, none⟩) hz]; exact hx0
  replace hx1 : w21.cell? ⟨w0.heap.size, 1, none⟩ = some (.int .i64 y) := by rw [st.cell (p := ⟨w0.heap.size, 1, none⟩) hz]; exact hx1
  replace hz := Nat.lt_of_lt_of_le hz st.size
  replace h_W := own_below h_W st
  replace h_xa := own_below h_xa st
  replace h_xb := own_below h_xb st
  replace h_G := own_below h_G st
  replace h_sa := own_below h_sa st
  replace h_sb := own_below h_sb st
  clear st
  go_wp2_with fail
  refine (eqF_any _ _ _ _ _ _ _ _ _ (row_of_own h_H).2 (row_of_own h_W).2 (MH.out.trans MW.out.symm) hl_a).mono ?_
  rintro e w22 ⟨rfl, n5, hq⟩
  have st : Below w21.heap.size w21 w22 := by rw [hq]; exact below_drewN (Below.refl _ _) _
  clear hq
  have sz22 := st.size
  replace hb := below_step hb st
  replace hx0 : w22.cell? ⟨w0.heap.size, 0, none⟩ = some (.int .i64 x) := by rw [st.cell (p := ⟨w0.heap.size, 0, none⟩) hz]; exact hx0
  replace hx1 : w22.cell? ⟨w0.heap.size, 1, none⟩ = some (.int .i64 y) := by rw [st.cell (p := ⟨w0.heap.size, 1, none⟩) hz]; exact hx1
  replace hz := Nat.lt_of_lt_of_le hz st.size
  replace h_W := own_below h_W st
  replace h_xa := own_below h_xa st
  replace h_xb := own_below h_xb st
  replace h_G := own_below h_G st
  replace h_sa := own_below h_sa st
  replace h_sb := own_below h_sb st
  replace h_H := own_below h_H st
  clear st
  go_wp2_with fail
  refine (heldF_any _ _ _ 1 _ (row_of_own h_G).2 hl_a (by omega) (by omega)).mono ?_
  rintro e w' ⟨rfl, rfl⟩
  go_wp2
  go_ret
  exact ⟨rfl, hb⟩

set_option maxHeartbeats 400000 in
theorem fnExactAddFields_walk (x y : Int) (a : Option Addr) (len cap : Nat) (xs : List Nat) (b : Option Addr) (len' cap' : Nat) (ys : List Nat) (w0 : World) (_ : (Lit.int .i64 x).wf = true) (_ : (Lit.int .i64 y).wf = true) (h_a : IsRow mkF w0 a len cap xs) (_ : ∀ z ∈ xs, (Lit.float .f32 z).wf = true) (h_b : IsRow mkF w0 b len' cap' ys) (_ : ∀ z ∈ ys, (Lit.float .f32 z).wf = true) :
    Calls Try.prog 10 #[.agg #[.int .i64 x, .int .i64 y], .slice a len cap, .slice b len' cap'] w0 fun e w' => e = .returned (.bool true) ∧ Below w0.heap.size w0 w' := by
  have hm : len ≤ 9223372036854775807 := by have h1 := h_a.2.1; have h2 := h_a.2.2.1; unfold maxLen at h2; omega
  have hm' : len' ≤ 9223372036854775807 := by have h1 := h_b.2.1; have h2 := h_b.2.2.1; unfold maxLen at h2; omega
  by_cases hl_a : len ≤ 1048576
  · by_cases hl_b : len' ≤ 1048576
    · by_cases hf : fld x y len = true ∧ fld x y len' = true
      · have h1 := (fld_pos hf.1).2
        have h2 := (fld_pos hf.2).2
        obtain rfl : len = len' := by omega
        exact fnExactAddFields_yes x y a len cap xs b cap' ys w0 h_a h_b hl_a hf.1
      · exact fnExactAddFields_no x y a len cap xs b len' cap' ys w0 h_a h_b hl_a hl_b hf
    · have hlt : decide ((1048576 : Int) < (len : Int)) = false := decide_eq_false (by omega)
      have hlt' : decide ((1048576 : Int) < (len' : Int)) = true := decide_eq_true (by omega)
      go_enter Try.func10, Try.ntmps10
      go_wp2_with fail
      go_ret
      exact ⟨rfl, (Below.refl _ _).alloc (Nat.le_refl _) _⟩
  · have hlt : decide ((1048576 : Int) < (len : Int)) = true := decide_eq_true (by omega)
    go_enter Try.func10, Try.ntmps10
    go_wp2_with fail
    go_ret
    exact ⟨rfl, (Below.refl _ _).alloc (Nat.le_refl _) _⟩
end Go.Proofs.Ytgoeadbjnjkgjaa
