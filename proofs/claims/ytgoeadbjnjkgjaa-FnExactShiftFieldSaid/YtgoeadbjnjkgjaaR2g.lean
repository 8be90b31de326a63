/-
  ShiftField where it fails; its law, walked out of the contracts.
-/
import Derived.Test.YtgoeadbjnjkgjaaShiftI
import Derived.Test.YtgoeadbjnjkgjaaR2d
namespace Go.Proofs.Ytgoeadbjnjkgjaa
open Go.RowKit
set_option linter.unusedVariables false

set_option maxHeartbeats 1000000 in
theorem specShift_no (x y : Int) (a : Option Addr) (len cap : Nat) (sx sy : Int) (w : World) (hf : ¬ (fld x y len = true ∧ inB sx (-16) 16 = true ∧ inB sy (-16) 16 = true)) (hl : len ≤ 1048576) :
    Calls Try.prog 38 #[.agg #[.int .i64 x, .int .i64 y], .slice a len cap, .int .i64 sx, .int .i64 sy] w fun e w' => e = .returned (.tuple #[.slice none 0 0, .bool false]) ∧ Below w.heap.size w w' := by
  cases h1 : fld x y len
  · clear hf
    go_enter Try.func38, Try.ntmps38
    go_wp2_with (first | (go_at_call 50; refine (l02Field_any _ x y _ _ _ _ (by simp) (by simp) hl).mono ?_; rintro e w' ⟨rfl, n, rfl⟩) | (go_at_call 42; refine (l00In_any _ _ _ _).mono ?_; rintro e w' ⟨rfl, rfl⟩))
    go_ret2
    exact ⟨rfl, below_drewN ((Below.refl _ _).alloc (Nat.le_refl _) _) _⟩
  · cases h2 : inB sx (-16) 16
    · clear hf
      go_enter Try.func38, Try.ntmps38
      go_wp2_with (first | (go_at_call 50; refine (l02Field_any _ x y _ _ _ _ (by simp) (by simp) hl).mono ?_; rintro e w' ⟨rfl, n, rfl⟩) | (go_at_call 42; refine (l00In_any _ _ _ _).mono ?_; rintro e w' ⟨rfl, rfl⟩))
      go_ret2
      exact ⟨rfl, below_drewN ((Below.refl _ _).alloc (Nat.le_refl _) _) _⟩
    · have h3 : inB sy (-16) 16 = false := by
        cases h : inB sy (-16) 16
        · rfl
        · exact absurd ⟨h1, h2, h⟩ hf
      clear hf
      go_enter Try.func38, Try.ntmps38
      go_wp2_with (first | (go_at_call 50; refine (l02Field_any _ x y _ _ _ _ (by simp) (by simp) hl).mono ?_; rintro e w' ⟨rfl, n, rfl⟩) | (go_at_call 42; refine (l00In_any _ _ _ _).mono ?_; rintro e w' ⟨rfl, rfl⟩))
      go_ret2
      exact ⟨rfl, below_drewN ((Below.refl _ _).alloc (Nat.le_refl _) _) _⟩
set_option maxHeartbeats 1000000 in
theorem implShift_no (x y : Int) (a : Option Addr) (len cap : Nat) (sx sy : Int) (w : World) (hf : ¬ (fld x y len = true ∧ inB sx (-16) 16 = true ∧ inB sy (-16) 16 = true)) (hl : len ≤ 1048576) :
    Calls Try.prog 39 #[.agg #[.int .i64 x, .int .i64 y], .slice a len cap, .int .i64 sx, .int .i64 sy] w fun e w' => e = .returned (.tuple #[.slice none 0 0, .bool false]) ∧ Below w.heap.size w w' := by
  cases h1 : fld x y len
  · clear hf
    go_enter Try.func39, Try.ntmps39
    go_wp2_with (first | (go_at_call 24; refine (implIsField_any _ _ _ _ _ _ hl).mono ?_; rintro e w1 ⟨rfl, st1⟩) | (go_at_call 44; refine (within_any _ _ _ _).mono ?_; rintro e w' ⟨rfl, rfl⟩))
    go_ret2
    exact ⟨rfl, ((Below.refl w.heap.size w).alloc (Nat.le_refl _) _).trans (st1.mono (by simp))⟩
  · cases h2 : inB sx (-16) 16
    · clear hf
      go_enter Try.func39, Try.ntmps39
      go_wp2_with (first | (go_at_call 24; refine (implIsField_any _ _ _ _ _ _ hl).mono ?_; rintro e w1 ⟨rfl, st1⟩) | (go_at_call 44; refine (within_any _ _ _ _).mono ?_; rintro e w' ⟨rfl, rfl⟩))
      go_ret2
      exact ⟨rfl, ((Below.refl w.heap.size w).alloc (Nat.le_refl _) _).trans (st1.mono (by simp))⟩
    · have h3 : inB sy (-16) 16 = false := by
        cases h : inB sy (-16) 16
        · rfl
        · exact absurd ⟨h1, h2, h⟩ hf
      clear hf
      go_enter Try.func39, Try.ntmps39
      go_wp2_with (first | (go_at_call 24; refine (implIsField_any _ _ _ _ _ _ hl).mono ?_; rintro e w1 ⟨rfl, st1⟩) | (go_at_call 44; refine (within_any _ _ _ _).mono ?_; rintro e w' ⟨rfl, rfl⟩))
      go_ret2
      exact ⟨rfl, ((Below.refl w.heap.size w).alloc (Nat.le_refl _) _).trans (st1.mono (by simp))⟩
set_option maxHeartbeats 2000000 in
theorem fnExactShiftField_no (x y : Int) (a : Option Addr) (len cap : Nat) (xs : List Nat) (sx sy : Int) (w0 : World) (h_a : IsRow mkF w0 a len cap xs) (hl_a : len ≤ 1048576) (hf : ¬ (fld x y len = true ∧ inB sx (-16) 16 = true ∧ inB sy (-16) 16 = true)) :
    Calls Try.prog 12 #[.agg #[.int .i64 x, .int .i64 y], .slice a len cap, .int .i64 sx, .int .i64 sy] w0 fun e w' => e = .returned (.bool true) ∧ Below w0.heap.size w0 w' := by
  have hlt : decide ((1048576 : Int) < (len : Int)) = false := decide_eq_false (by omega)
  have HF := Lib.hid hf
  clear hf
  go_enter Try.func12, Try.ntmps12
  go_wp2_with fail
  refine (toGrid_any _ _ _).mono ?_
  rintro e w1 ⟨rfl, st⟩
  have hb : Below w0.heap.size w0 w1 := ((Below.refl _ _).alloc (Nat.le_refl _) _).trans (st.mono (by simp))
  have hz : w0.heap.size < w1.heap.size := by have := st.size; simp at this; omega
  have hx0 : w1.cell? ⟨w0.heap.size, 0, none⟩ = some (.int .i64 x) := by rw [st.cell (p := ⟨w0.heap.size, 0, none⟩) (by simp)]; simp
  have hx1 : w1.cell? ⟨w0.heap.size, 1, none⟩ = some (.int .i64 y) := by rw [st.cell (p := ⟨w0.heap.size, 1, none⟩) (by simp)]; simp
  have hzf := hz
  clear st
  go_wp2_with fail
  refine (toF_any _ _ _ _ _ (row_below h_a hb) hl_a).mono ?_
  rintro e w2 ⟨rfl, h_ua, st⟩
  have hi_ua : w1.heap.size < w2.heap.size := (h_ua.lt _ rfl).2
  have sz2 := st.size
  replace hb := below_step hb st
  replace hx0 : w2.cell? ⟨w0.heap.size, 0, none⟩ = some (.int .i64 x) := by rw [st.cell (p := ⟨w0.heap.size, 0, none⟩) hz]; exact hx0
  replace hx1 : w2.cell? ⟨w0.heap.size, 1, none⟩ = some (.int .i64 y) := by rw [st.cell (p := ⟨w0.heap.size, 1, none⟩) hz]; exact hx1
  replace hz := Nat.lt_of_lt_of_le hz st.size
  clear st
  go_wp2_with fail
  refine (specShift_no _ _ _ _ _ _ _ _ HF.out hl_a).mono ?_
  rintro e w3 ⟨rfl, st⟩
  have sz3 := st.size
  replace hb := below_step hb st
  replace hx0 : w3.cell? ⟨w0.heap.size, 0, none⟩ = some (.int .i64 x) := by rw [st.cell (p := ⟨w0.heap.size, 0, none⟩) hz]; exact hx0
  replace hx1 : w3.cell? ⟨w0.heap.size, 1, none⟩ = some (.int .i64 y) := by rw [st.cell (p := ⟨w0.heap.size, 1, none⟩) hz]; exact hx1
  replace hz := Nat.lt_of_lt_of_le hz st.size
  replace h_ua := own_below h_ua st
  clear st
  clear h_ua
  go_wp2_with fail
  refine (toF_any _ _ _ _ _ (row_below h_a hb) hl_a).mono ?_
  rintro e w4 ⟨rfl, h_xa, st⟩
  have hi_xa : w3.heap.size < w4.heap.size := (h_xa.lt _ rfl).2
  have sz4 := st.size
  replace hb := below_step hb st
  replace hx0 : w4.cell? ⟨w0.heap.size, 0, none⟩ = some (.int .i64 x) := by rw [st.cell (p := ⟨w0.heap.size, 0, none⟩) hz]; exact hx0
  replace hx1 : w4.cell? ⟨w0.heap.size, 1, none⟩ = some (.int .i64 y) := by rw [st.cell (p := ⟨w0.heap.size, 1, none⟩) hz]; exact hx1
  replace hz := Nat.lt_of_lt_of_le hz st.size
  clear st
  go_wp2_with fail
  refine (toGrid_any _ _ _).mono ?_
  rintro e w5 ⟨rfl, st⟩
  have sz5 := st.size
  replace hb := below_step hb st
  replace hx0 : w5.cell? ⟨w0.heap.size, 0, none⟩ = some (.int .i64 x) := by rw [st.cell (p := ⟨w0.heap.size, 0, none⟩) hz]; exact hx0
  replace hx1 : w5.cell? ⟨w0.heap.size, 1, none⟩ = some (.int .i64 y) := by rw [st.cell (p := ⟨w0.heap.size, 1, none⟩) hz]; exact hx1
  replace hz := Nat.lt_of_lt_of_le hz st.size
  replace h_xa := own_below h_xa st
  clear st
  go_wp2_with fail
  refine (implShift_no _ _ _ _ _ _ _ _ HF.out hl_a).mono ?_
  rintro e w6 ⟨rfl, st⟩
  have sz6 := st.size
  replace hb := below_step hb st
  replace hx0 : w6.cell? ⟨w0.heap.size, 0, none⟩ = some (.int .i64 x) := by rw [st.cell (p := ⟨w0.heap.size, 0, none⟩) hz]; exact hx0
  replace hx1 : w6.cell? ⟨w0.heap.size, 1, none⟩ = some (.int .i64 y) := by rw [st.cell (p := ⟨w0.heap.size, 1, none⟩) hz]; exact hx1
  replace hz := Nat.lt_of_lt_of_le hz st.size
  replace h_xa := own_below h_xa st
  clear st
  go_wp2_with fail
  refine (eqF_any _ _ _ _ _ _ _ _ _ (nil_row _) (nil_row _) rfl (by omega)).mono ?_
  rintro e w7 ⟨rfl, n1, hq⟩
  have st : Below w6.heap.size w6 w7 := by rw [hq]; exact below_drewN (Below.refl _ _) _
  clear hq
  have sz7 := st.size
  replace hb := below_step hb st
  replace hx0 : w7.cell? ⟨w0.heap.size, 0, none⟩ = some (.int .i64 x) := by rw [st.cell (p := ⟨w0.heap.size, 0, none⟩) hz]; exact hx0
  replace hx1 : w7.cell? ⟨w0.heap.size, 1, none⟩ = some (.int .i64 y) := by rw [st.cell (p := ⟨w0.heap.size, 1, none⟩) hz]; exact hx1
  replace hz := Nat.lt_of_lt_of_le hz st.size
  replace h_xa := own_below h_xa st
  clear st
  go_wp2_with fail
  refine (toF_any _ _ _ _ _ (row_below h_a hb) hl_a).mono ?_
  rintro e w8 ⟨rfl, h_ta, st⟩
  have hi_ta : w7.heap.size < w8.heap.size := (h_ta.lt _ rfl).2
  have sz8 := st.size
  replace hb := below_step hb st
  replace hx0 : w8.cell? ⟨w0.heap.size, 0, none⟩ = some (.int .i64 x) := by rw [st.cell (p := ⟨w0.heap.size, 0, none⟩) hz]; exact hx0
  replace hx1 : w8.cell? ⟨w0.heap.size, 1, none⟩ = some (.int .i64 y) := by rw [st.cell (p := ⟨w0.heap.size, 1, none⟩) hz]; exact hx1
  replace hz := Nat.lt_of_lt_of_le hz st.size
  replace h_xa := own_below h_xa st
  clear st
  go_wp2_with fail
  refine (eqF_any _ _ _ _ _ _ _ _ _ (row_of_own h_xa).2 (row_of_own h_ta).2 rfl hl_a).mono ?_
  rintro e w9 ⟨rfl, n2, hq⟩
  have st : Below w8.heap.size w8 w9 := by rw [hq]; exact below_drewN (Below.refl _ _) _
  clear hq
  have sz9 := st.size
  replace hb := below_step hb st
  replace hx0 : w9.cell? ⟨w0.heap.size, 0, none⟩ = some (.int .i64 x) := by rw [st.cell (p := ⟨w0.heap.size, 0, none⟩) hz]; exact hx0
  replace hx1 : w9.cell? ⟨w0.heap.size, 1, none⟩ = some (.int .i64 y) := by rw [st.cell (p := ⟨w0.heap.size, 1, none⟩) hz]; exact hx1
  replace hz := Nat.lt_of_lt_of_le hz st.size
  replace h_xa := own_below h_xa st
  replace h_ta := own_below h_ta st
  clear st
  clear h_ta
  go_wp2_with fail
  refine (markF_any _ (some ⟨w3.heap.size, 0, none⟩) len len xs (1) _ h_xa hl_a (by omega) (by omega)).mono ?_
  rintro e w10 ⟨rfl, hmk, hg⟩
  have lob : w0.heap.size < w3.heap.size := by omega
  replace hb := hb.trans ((Below.refl w0.heap.size w9).grown hg hb.size (by intro k hk; simp only [Value.ownBlock, Option.some.injEq] at hk; omega))
  replace hx0 := hg.cell hx0 (by simp only [Value.ownBlock, ne_eq, Option.some.injEq]; omega)
  replace hx1 := hg.cell hx1 (by simp only [Value.ownBlock, ne_eq, Option.some.injEq]; omega)
  have sz10 := hg.size
  replace hz := Nat.lt_of_lt_of_le hz hg.size
  clear hg lob h_xa
  have h_xa := hmk
  clear hmk
  go_wp2_with fail
  refine (eqF_any _ _ _ _ _ _ _ _ _ (nil_row _) (nil_row _) rfl (by omega)).mono ?_
  rintro e w11 ⟨rfl, n3, hq⟩
  have st : Below w10.heap.size w10 w11 := by rw [hq]; exact below_drewN (Below.refl _ _) _
  clear hq
  have sz11 := st.size
  replace hb := below_step hb st
  replace hx0 : w11.cell? ⟨w0.heap.size, 0, none⟩ = some (.int .i64 x) := by rw [st.cell (p := ⟨w0.heap.size, 0, none⟩) hz]; exact hx0
  replace hx1 : w11.cell? ⟨w0.heap.size, 1, none⟩ = some (.int .i64 y) := by rw [st.cell (p := ⟨w0.heap.size, 1, none⟩) hz]; exact hx1
  replace hz := Nat.lt_of_lt_of_le hz st.size
  replace h_xa := own_below h_xa st
  clear st
  go_wp2_with fail
  refine (markNil_any 1 _).mono ?_
  rintro e w' ⟨rfl, rfl⟩
  go_wp2_with fail
  refine (heldNil_any 1 _).mono ?_
  rintro e w' ⟨rfl, rfl⟩
  go_wp2_with fail
  refine (toGrid_any _ _ _).mono ?_
  rintro e w12 ⟨rfl, st⟩
  have sz12 := st.size
  replace hb := below_step hb st
  replace hx0 : w12.cell? ⟨w0.heap.size, 0, none⟩ = some (.int .i64 x) := by rw [st.cell (p := ⟨w0.heap.size, 0, none⟩) hz]; exact hx0
  replace hx1 : w12.cell? ⟨w0.heap.size, 1, none⟩ = some (.int .i64 y) := by rw [st.cell (p := ⟨w0.heap.size, 1, none⟩) hz]; exact hx1
  replace hz := Nat.lt_of_lt_of_le hz st.size
  replace h_xa := own_below h_xa st
  clear st
  go_wp2_with fail
  refine (toF_any _ _ _ _ _ (row_below h_a hb) hl_a).mono ?_
  rintro e w13 ⟨rfl, h_sa, st⟩
  have hi_sa : w12.heap.size < w13.heap.size := (h_sa.lt _ rfl).2
  have sz13 := st.size
  replace hb := below_step hb st
  replace hx0 : w13.cell? ⟨w0.heap.size, 0, none⟩ = some (.int .i64 x) := by rw [st.cell (p := ⟨w0.heap.size, 0, none⟩) hz]; exact hx0
  replace hx1 : w13.cell? ⟨w0.heap.size, 1, none⟩ = some (.int .i64 y) := by rw [st.cell (p := ⟨w0.heap.size, 1, none⟩) hz]; exact hx1
  replace hz := Nat.lt_of_lt_of_le hz st.size
  replace h_xa := own_below h_xa st
  clear st
  go_wp2_with fail
  refine (implShift_no _ _ _ _ _ _ _ _ HF.out hl_a).mono ?_
  rintro e w14 ⟨rfl, st⟩
  have sz14 := st.size
  replace hb := below_step hb st
  replace hx0 : w14.cell? ⟨w0.heap.size, 0, none⟩ = some (.int .i64 x) := by rw [st.cell (p := ⟨w0.heap.size, 0, none⟩) hz]; exact hx0
  replace hx1 : w14.cell? ⟨w0.heap.size, 1, none⟩ = some (.int .i64 y) := by rw [st.cell (p := ⟨w0.heap.size, 1, none⟩) hz]; exact hx1
  replace hz := Nat.lt_of_lt_of_le hz st.size
  replace h_xa := own_below h_xa st
  replace h_sa := own_below h_sa st
  clear st
  go_wp2_with fail
  refine (eqF_any _ _ _ _ _ _ _ _ _ (nil_row _) (nil_row _) rfl (by omega)).mono ?_
  rintro e w15 ⟨rfl, n4, hq⟩
  have st : Below w14.heap.size w14 w15 := by rw [hq]; exact below_drewN (Below.refl _ _) _
  clear hq
  have sz15 := st.size
  replace hb := below_step hb st
  replace hx0 : w15.cell? ⟨w0.heap.size, 0, none⟩ = some (.int .i64 x) := by rw [st.cell (p := ⟨w0.heap.size, 0, none⟩) hz]; exact hx0
  replace hx1 : w15.cell? ⟨w0.heap.size, 1, none⟩ = some (.int .i64 y) := by rw [st.cell (p := ⟨w0.heap.size, 1, none⟩) hz]; exact hx1
  replace hz := Nat.lt_of_lt_of_le hz st.size
  replace h_xa := own_below h_xa st
  replace h_sa := own_below h_sa st
  clear st
  go_wp2_with fail
  refine (heldNil_any 1 _).mono ?_
  rintro e w' ⟨rfl, rfl⟩
  go_wp2
  go_ret
  exact ⟨rfl, hb⟩

set_option maxHeartbeats 2000000 in
theorem fnExactShiftField_yes (x y : Nat) (a : Option Addr) (len cap : Nat) (xs : List Nat) (sx sy : Int) (w0 : World) (h_a : IsRow mkF w0 a len cap xs) (hl_a : len ≤ 1048576) (hf : fld x y len = true) (k0 : -16 ≤ sx) (k1 : sx ≤ 16) (k2 : -16 ≤ sy) (k3 : sy ≤ 16) :
    Calls Try.prog 12 #[.agg #[.int .i64 (x : Int), .int .i64 (y : Int)], .slice a len cap, .int .i64 sx, .int .i64 sy] w0 fun e w' => e = .returned (.bool true) ∧ Below w0.heap.size w0 w' := by
  have hn := (fld_pos hf).1
  have hlt : decide ((1048576 : Int) < (len : Int)) = false := decide_eq_false (by omega)
  go_enter Try.func12, Try.ntmps12
  go_wp2_with fail
  refine (toGrid_any _ _ _).mono ?_
  rintro e w1 ⟨rfl, st⟩
  have hb : Below w0.heap.size w0 w1 := ((Below.refl _ _).alloc (Nat.le_refl _) _).trans (st.mono (by simp))
  have hz : w0.heap.size < w1.heap.size := by have := st.size; simp at this; omega
  have hx0 : w1.cell? ⟨w0.heap.size, 0, none⟩ = some (.int .i64 (x : Int)) := by rw [st.cell (p := ⟨w0.heap.size, 0, none⟩) (by simp)]; simp
  have hx1 : w1.cell? ⟨w0.heap.size, 1, none⟩ = some (.int .i64 (y : Int)) := by rw [st.cell (p := ⟨w0.heap.size, 1, none⟩) (by simp)]; simp
  have hzf := hz
  clear st
  go_wp2_with fail
  refine (toF_any _ _ _ _ _ (row_below h_a hb) hl_a).mono ?_
  rintro e w2 ⟨rfl, h_ua, st⟩
  have hi_ua : w1.heap.size < w2.heap.size := (h_ua.lt _ rfl).2
  have sz2 := st.size
  replace hb := below_step hb st
  replace hx0 : w2.cell? ⟨w0.heap.size, 0, none⟩ = some (.int .i64 (x : Int)) := by rw [st.cell (p := ⟨w0.heap.size, 0, none⟩) hz]; exact hx0
  replace hx1 : w2.cell? ⟨w0.heap.size, 1, none⟩ = some (.int .i64 (y : Int)) := by rw [st.cell (p := ⟨w0.heap.size, 1, none⟩) hz]; exact hx1
  replace hz := Nat.lt_of_lt_of_le hz st.size
  clear st
  go_wp2_with fail
  refine (specShift_yes _ _ _ _ _ _ _ _ _ (row_of_own h_ua).2 hf hl_a k0 k1 k2 k3).mono ?_
  rintro e w3 ⟨v, rfl, h_W, st⟩
  obtain ⟨gW, cW, rfl⟩ := own_shape h_W hn
  have lo_W := (h_W.lt _ rfl).1
  have hi_W := (h_W.lt _ rfl).2
  have sz3 := st.size
  replace hb := below_step hb st
  replace hx0 : w3.cell? ⟨w0.heap.size, 0, none⟩ = some (.int .i64 (x : Int)) := by rw [st.cell (p := ⟨w0.heap.size, 0, none⟩) hz]; exact hx0
  replace hx1 : w3.cell? ⟨w0.heap.size, 1, none⟩ = some (.int .i64 (y : Int)) := by rw [st.cell (p := ⟨w0.heap.size, 1, none⟩) hz]; exact hx1
  replace hz := Nat.lt_of_lt_of_le hz st.size
  replace h_ua := own_below h_ua st
  clear st
  clear h_ua
  go_wp2_with fail
  refine (toF_any _ _ _ _ _ (row_below h_a hb) hl_a).mono ?_
  rintro e w4 ⟨rfl, h_xa, st⟩
  have hi_xa : w3.heap.size < w4.heap.size := (h_xa.lt _ rfl).2
  have sz4 := st.size
  replace hb := below_step hb st
  replace hx0 : w4.cell? ⟨w0.heap.size, 0, none⟩ = some (.int .i64 (x : Int)) := by rw [st.cell (p := ⟨w0.heap.size, 0, none⟩) hz]; exact hx0
  replace hx1 : w4.cell? ⟨w0.heap.size, 1, none⟩ = some (.int .i64 (y : Int)) := by rw [st.cell (p := ⟨w0.heap.size, 1, none⟩) hz]; exact hx1
  replace hz := Nat.lt_of_lt_of_le hz st.size
  replace h_W := own_below h_W st
  clear st
  go_wp2_with fail
  refine (toGrid_any _ _ _).mono ?_
  rintro e w5 ⟨rfl, st⟩
  have sz5 := st.size
  replace hb := below_step hb st
  replace hx0 : w5.cell? ⟨w0.heap.size, 0, none⟩ = some (.int .i64 (x : Int)) := by rw [st.cell (p := ⟨w0.heap.size, 0, none⟩) hz]; exact hx0
  replace hx1 : w5.cell? ⟨w0.heap.size, 1, none⟩ = some (.int .i64 (y : Int)) := by rw [st.cell (p := ⟨w0.heap.size, 1, none⟩) hz]; exact hx1
  replace hz := Nat.lt_of_lt_of_le hz st.size
  replace h_W := own_below h_W st
  replace h_xa := own_below h_xa st
  clear st
  go_wp2_with fail
  refine (implShift_yes _ _ _ _ _ _ _ _ _ (row_of_own h_xa).2 hf hl_a k0 k1 k2 k3).mono ?_
  rintro e w6 ⟨v, rfl, h_G, st⟩
  obtain ⟨gG, cG, rfl⟩ := own_shape h_G hn
  have lo_G := (h_G.lt _ rfl).1
  have hi_G := (h_G.lt _ rfl).2
  have sz6 := st.size
  replace hb := below_step hb st
  replace hx0 : w6.cell? ⟨w0.heap.size, 0, none⟩ = some (.int .i64 (x : Int)) := by rw [st.cell (p := ⟨w0.heap.size, 0, none⟩) hz]; exact hx0
  replace hx1 : w6.cell? ⟨w0.heap.size, 1, none⟩ = some (.int .i64 (y : Int)) := by rw [st.cell (p := ⟨w0.heap.size, 1, none⟩) hz]; exact hx1
  replace hz := Nat.lt_of_lt_of_le hz st.size
  replace h_W := own_below h_W st
  replace h_xa := own_below h_xa st
  clear st
  go_wp2_with fail
  refine (eqF_any _ _ _ _ _ _ _ _ _ (row_of_own h_G).2 (row_of_own h_W).2 rfl hl_a).mono ?_
  rintro e w7 ⟨rfl, n1, hq⟩
  have st : Below w6.heap.size w6 w7 := by rw [hq]; exact below_drewN (Below.refl _ _) _
  clear hq
  have sz7 := st.size
  replace hb := below_step hb st
  replace hx0 : w7.cell? ⟨w0.heap.size, 0, none⟩ = some (.int .i64 (x : Int)) := by rw [st.cell (p := ⟨w0.heap.size, 0, none⟩) hz]; exact hx0
  replace hx1 : w7.cell? ⟨w0.heap.size, 1, none⟩ = some (.int .i64 (y : Int)) := by rw [st.cell (p := ⟨w0.heap.size, 1, none⟩) hz]; exact hx1
  replace hz := Nat.lt_of_lt_of_le hz st.size
  replace h_W := own_below h_W st
  replace h_xa := own_below h_xa st
  replace h_G := own_below h_G st
  clear st
  go_wp2_with fail
  refine (toF_any _ _ _ _ _ (row_below h_a hb) hl_a).mono ?_
  rintro e w8 ⟨rfl, h_ta, st⟩
  have hi_ta : w7.heap.size < w8.heap.size := (h_ta.lt _ rfl).2
  have sz8 := st.size
  replace hb := below_step hb st
  replace hx0 : w8.cell? ⟨w0.heap.size, 0, none⟩ = some (.int .i64 (x : Int)) := by rw [st.cell (p := ⟨w0.heap.size, 0, none⟩) hz]; exact hx0
  replace hx1 : w8.cell? ⟨w0.heap.size, 1, none⟩ = some (.int .i64 (y : Int)) := by rw [st.cell (p := ⟨w0.heap.size, 1, none⟩) hz]; exact hx1
  replace hz := Nat.lt_of_lt_of_le hz st.size
  replace h_W := own_below h_W st
  replace h_xa := own_below h_xa st
  replace h_G := own_below h_G st
  clear st
  go_wp2_with fail
  refine (eqF_any _ _ _ _ _ _ _ _ _ (row_of_own h_xa).2 (row_of_own h_ta).2 rfl hl_a).mono ?_
  rintro e w9 ⟨rfl, n2, hq⟩
  have st : Below w8.heap.size w8 w9 := by rw [hq]; exact below_drewN (Below.refl _ _) _
  clear hq
  have sz9 := st.size
  replace hb := below_step hb st
  replace hx0 : w9.cell? ⟨w0.heap.size, 0, none⟩ = some (.int .i64 (x : Int)) := by rw [st.cell (p := ⟨w0.heap.size, 0, none⟩) hz]; exact hx0
  replace hx1 : w9.cell? ⟨w0.heap.size, 1, none⟩ = some (.int .i64 (y : Int)) := by rw [st.cell (p := ⟨w0.heap.size, 1, none⟩) hz]; exact hx1
  replace hz := Nat.lt_of_lt_of_le hz st.size
  replace h_W := own_below h_W st
  replace h_xa := own_below h_xa st
  replace h_G := own_below h_G st
  replace h_ta := own_below h_ta st
  clear st
  clear h_ta
  go_wp2_with fail
  refine (markF_any _ (some ⟨w3.heap.size, 0, none⟩) len len xs 1 _ h_xa hl_a (by omega) (by omega)).mono ?_
  rintro e w10 ⟨rfl, hmk, hg⟩
  have lob : w0.heap.size < w3.heap.size := by omega
  replace hb := hb.trans ((Below.refl w0.heap.size w9).grown hg hb.size (by intro k hk; simp only [Value.ownBlock, Option.some.injEq] at hk; omega))
  replace hx0 := hg.cell hx0 (by simp only [Value.ownBlock, ne_eq, Option.some.injEq]; omega)
  replace hx1 := hg.cell hx1 (by simp only [Value.ownBlock, ne_eq, Option.some.injEq]; omega)
  have sz10 := hg.size
  replace hz := Nat.lt_of_lt_of_le hz hg.size
  replace h_W := h_W.kept hg (.inr (by simp only [Value.ownBlock, ne_eq, Option.some.injEq]; omega))
  replace h_G := h_G.kept hg (.inr (by simp only [Value.ownBlock, ne_eq, Option.some.injEq]; omega))
  clear hg lob h_xa
  have h_xa := hmk
  clear hmk
  go_wp2_with fail
  refine (eqF_any _ _ _ _ _ _ _ _ _ (row_of_own h_G).2 (row_of_own h_W).2 rfl hl_a).mono ?_
  rintro e w11 ⟨rfl, n3, hq⟩
  have st : Below w10.heap.size w10 w11 := by rw [hq]; exact below_drewN (Below.refl _ _) _
  clear hq
  have sz11 := st.size
  replace hb := below_step hb st
  replace hx0 : w11.cell? ⟨w0.heap.size, 0, none⟩ = some (.int .i64 (x : Int)) := by rw [st.cell (p := ⟨w0.heap.size, 0, none⟩) hz]; exact hx0
  replace hx1 : w11.cell? ⟨w0.heap.size, 1, none⟩ = some (.int .i64 (y : Int)) := by rw [st.cell (p := ⟨w0.heap.size, 1, none⟩) hz]; exact hx1
  replace hz := Nat.lt_of_lt_of_le hz st.size
  replace h_W := own_below h_W st
  replace h_xa := own_below h_xa st
  replace h_G := own_below h_G st
  clear st
  go_wp2_with fail
  refine (markF_any _ (some ⟨gG, 0, none⟩) len cG _ 1 _ h_G hl_a (by omega) (by omega)).mono ?_
  rintro e w12 ⟨rfl, hmk, hg⟩
  have lob : w0.heap.size < gG := by omega
  replace hb := hb.trans ((Below.refl w0.heap.size w11).grown hg hb.size (by intro k hk; simp only [Value.ownBlock, Option.some.injEq] at hk; omega))
  replace hx0 := hg.cell hx0 (by simp only [Value.ownBlock, ne_eq, Option.some.injEq]; omega)
  replace hx1 := hg.cell hx1 (by simp only [Value.ownBlock, ne_eq, Option.some.injEq]; omega)
  have sz12 := hg.size
  replace hz := Nat.lt_of_lt_of_le hz hg.size
  replace h_W := h_W.kept hg (.inr (by simp only [Value.ownBlock, ne_eq, Option.some.injEq]; omega))
  replace h_xa := h_xa.kept hg (.inr (by simp only [Value.ownBlock, ne_eq, Option.some.injEq]; omega))
  clear hg lob h_G
  have h_G := hmk
  clear hmk
  go_wp2_with fail
  refine (heldF_any _ _ _ 1 _ (row_of_own h_G).2 hl_a (by omega) (by omega)).mono ?_
  rintro e w' ⟨rfl, rfl⟩
  go_wp2_with fail
  refine (toGrid_any _ _ _).mono ?_
  rintro e w13 ⟨rfl, st⟩
  have sz13 := st.size
  replace hb := below_step hb st
  replace hx0 : w13.cell? ⟨w0.heap.size, 0, none⟩ = some (.int .i64 (x : Int)) := by rw [st.cell (p := ⟨w0.heap.size, 0, none⟩) hz]; exact hx0
  replace hx1 : w13.cell? ⟨w0.heap.size, 1, none⟩ = some (.int .i64 (y : Int)) := by rw [st.cell (p := ⟨w0.heap.size, 1, none⟩) hz]; exact hx1
  replace hz := Nat.lt_of_lt_of_le hz st.size
  replace h_W := own_below h_W st
  replace h_xa := own_below h_xa st
  replace h_G := own_below h_G st
  clear st
  go_wp2_with fail
  refine (toF_any _ _ _ _ _ (row_below h_a hb) hl_a).mono ?_
  rintro e w14 ⟨rfl, h_sa, st⟩
  have hi_sa : w13.heap.size < w14.heap.size := (h_sa.lt _ rfl).2
  have sz14 := st.size
  replace hb := below_step hb st
  replace hx0 : w14.cell? ⟨w0.heap.size, 0, none⟩ = some (.int .i64 (x : Int)) := by rw [st.cell (p := ⟨w0.heap.size, 0, none⟩) hz]; exact hx0
  replace hx1 : w14.cell? ⟨w0.heap.size, 1, none⟩ = some (.int .i64 (y : Int)) := by rw [st.cell (p := ⟨w0.heap.size, 1, none⟩) hz]; exact hx1
  replace hz := Nat.lt_of_lt_of_le hz st.size
  replace h_W := own_below h_W st
  replace h_xa := own_below h_xa st
  replace h_G := own_below h_G st
  clear st
  go_wp2_with fail
  refine (implShift_yes _ _ _ _ _ _ _ _ _ (row_of_own h_sa).2 hf hl_a k0 k1 k2 k3).mono ?_
  rintro e w15 ⟨v, rfl, h_H, st⟩
  obtain ⟨gH, cH, rfl⟩ := own_shape h_H hn
  have lo_H := (h_H.lt _ rfl).1
  have hi_H := (h_H.lt _ rfl).2
  have sz15 := st.size
  replace hb := below_step hb st
  replace hx0 : w15.cell? ⟨w0.heap.size, 0, none⟩ = some (.int .i64 (x : Int)) := by rw [st.cell (p := ⟨w0.heap.size, 0, none⟩) hz]; exact hx0
  replace hx1 : w15.cell? ⟨w0.heap.size, 1, none⟩ = some (.int .i64 (y : Int)) := by rw [st.cell (p := ⟨w0.heap.size, 1, none⟩) hz]; exact hx1
  replace hz := Nat.lt_of_lt_of_le hz st.size
  replace h_W := own_below h_W st
  replace h_xa := own_below h_xa st
  replace h_G := own_below h_G st
  replace h_sa := own_below h_sa st
  clear st
  go_wp2_with fail
  refine (eqF_any _ _ _ _ _ _ _ _ _ (row_of_own h_H).2 (row_of_own h_W).2 rfl hl_a).mono ?_
  rintro e w16 ⟨rfl, n4, hq⟩
  have st : Below w15.heap.size w15 w16 := by rw [hq]; exact below_drewN (Below.refl _ _) _
  clear hq
  have sz16 := st.size
  replace hb := below_step hb st
  replace hx0 : w16.cell? ⟨w0.heap.size, 0, none⟩ = some (.int .i64 (x : Int)) := by rw [st.cell (p := ⟨w0.heap.size, 0, none⟩) hz]; exact hx0
  replace hx1 : w16.cell? ⟨w0.heap.size, 1, none⟩ = some (.int .i64 (y : Int)) := by rw [st.cell (p := ⟨w0.heap.size, 1, none⟩) hz]; exact hx1
  replace hz := Nat.lt_of_lt_of_le hz st.size
  replace h_W := own_below h_W st
  replace h_xa := own_below h_xa st
  replace h_G := own_below h_G st
  replace h_sa := own_below h_sa st
  replace h_H := own_below h_H st
  clear st
  go_wp2_with fail
  refine (heldF_any _ _ _ 1 _ (row_of_own h_G).2 hl_a (by omega) (by omega)).mono ?_
  rintro e w' ⟨rfl, rfl⟩
  go_wp2
  go_ret
  exact ⟨rfl, hb⟩

set_option maxHeartbeats 400000 in
theorem fnExactShiftField_walk (x y : Int) (a : Option Addr) (len cap : Nat) (xs : List Nat) (sx sy : Int) (w0 : World) (_ : (Lit.int .i64 x).wf = true) (_ : (Lit.int .i64 y).wf = true) (h_a : IsRow mkF w0 a len cap xs) (_ : ∀ z ∈ xs, (Lit.float .f32 z).wf = true) (_ : (Lit.int .i64 sx).wf = true) (_ : (Lit.int .i64 sy).wf = true) :
    Calls Try.prog 12 #[.agg #[.int .i64 x, .int .i64 y], .slice a len cap, .int .i64 sx, .int .i64 sy] w0 fun e w' => e = .returned (.bool true) ∧ Below w0.heap.size w0 w' := by
  have hm : len ≤ 9223372036854775807 := by have h1 := h_a.2.1; have h2 := h_a.2.2.1; unfold maxLen at h2; omega
  by_cases hl_a : len ≤ 1048576
  · by_cases hf : fld x y len = true ∧ inB sx (-16) 16 = true ∧ inB sy (-16) 16 = true
    · have hg : vg x y = true := by have h := hf.1; unfold fld at h; simp only [Bool.and_eq_true] at h; exact h.1
      obtain ⟨g1, g2, g3, g4⟩ := vg_bd hg
      have b1 := of_decide_eq_true hf.2.1
      have b2 := of_decide_eq_true hf.2.2
      obtain ⟨m, rfl⟩ := Int.eq_ofNat_of_zero_le (show 0 ≤ x by omega)
      obtain ⟨n, rfl⟩ := Int.eq_ofNat_of_zero_le (show 0 ≤ y by omega)
      exact fnExactShiftField_yes m n a len cap xs sx sy w0 h_a hl_a hf.1 b1.1 b1.2 b2.1 b2.2
    · exact fnExactShiftField_no x y a len cap xs sx sy w0 h_a hl_a hf
  · have hlt : decide ((1048576 : Int) < (len : Int)) = true := decide_eq_true (by omega)
    go_enter Try.func12, Try.ntmps12
    go_wp2_with fail
    go_ret
    exact ⟨rfl, (Below.refl _ _).alloc (Nat.le_refl _) _⟩
end Go.Proofs.Ytgoeadbjnjkgjaa
