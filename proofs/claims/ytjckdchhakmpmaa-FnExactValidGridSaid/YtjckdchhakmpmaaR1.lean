/-
  Walks over the small functions of numbers: bits, same, finite, and of grids: the valid ones.
-/
import Derived.Test.YtjckdchhakmpmaaExt
import Derived.Test.YtjckdchhakmpmaaOrd
import Derived.Handy
namespace Go.Proofs.Ytjckdchhakmpmaa
open Go.RowKit

set_option maxHeartbeats 400000 in
theorem l01Bits_any (x : Nat) (w : World) (hw : (Lit.float .f32 x).wf = true) :
    Calls Try.prog 29 #[.float .f32 x] w fun e w' => e = .returned (.int .i64 (cn .f32 x : Nat)) ∧ w = w' := by
  have hx := wf_lt32 hw
  have ho := order_self .f32 x
  cases h : isN .f32 x
  · rw [cn_of_not h]
    rw [h, if_neg (by simp)] at ho
    clear hw h
    go_enter Try.func29, Try.ntmps29
    go_wp2
    go_ret
    exact ⟨rfl, rfl⟩
  · rw [cn_of_nan h]
    rw [h, if_pos rfl] at ho
    clear hw h
    go_enter Try.func29, Try.ntmps29
    go_wp2
    go_ret
    exact ⟨rfl, rfl⟩

set_option maxHeartbeats 400000 in
theorem BitsOf_any (x : Nat) (w : World) (hw : (Lit.float .f32 x).wf = true) :
    Calls Try.prog 19 #[.float .f32 x] w fun e w' => e = .returned (.int .i64 (cn .f32 x : Nat)) ∧ w = w' := by
  have hx := wf_lt32 hw
  have ho := order_self .f32 x
  cases h : isN .f32 x
  · rw [cn_of_not h]
    rw [h, if_neg (by simp)] at ho
    clear hw h
    go_enter Try.func19, Try.ntmps19
    go_wp2
    go_ret
    exact ⟨rfl, rfl⟩
  · rw [cn_of_nan h]
    rw [h, if_pos rfl] at ho
    clear hw h
    go_enter Try.func19, Try.ntmps19
    go_wp2
    go_ret
    exact ⟨rfl, rfl⟩

set_option maxHeartbeats 400000 in
theorem fnExactBitsOf_walk (x : Nat) (hw : (Lit.float .f32 x).wf = true) (w : World) :
    Calls Try.prog 7 #[.float .f32 x] w fun e w' => e = .returned (.bool true) ∧ Below w.heap.size w w' := by
  go_enter Try.func7, Try.ntmps7
  go_wp2_with (first | (go_at_call 18; go_in) | (go_at_call 29; refine (l01Bits_any _ _ hw).mono ?_; rintro e w' ⟨rfl, rfl⟩) | (go_at_call 19; refine (BitsOf_any _ _ hw).mono ?_; rintro e w' ⟨rfl, rfl⟩))
  go_ret
  exact ⟨rfl, Below.refl _ _⟩

set_option maxHeartbeats 400000 in
theorem fnExactSameNumber_walk (x y : Nat) (hx : (Lit.float .f32 x).wf = true) (hy : (Lit.float .f32 y).wf = true) (w : World) :
    Calls Try.prog 9 #[.float .f32 x, .float .f32 y] w fun e w' => e = .returned (.bool true) ∧ Below w.heap.size w w' := by
  go_enter Try.func9, Try.ntmps9
  go_wp2_with (first | (go_at_call 22; go_in) | (go_at_call 32; go_in) | (go_at_call 23; go_in) | (go_at_call 29; refine (l01Bits_any _ _ (by assumption)).mono ?_; rintro e w' ⟨rfl, rfl⟩) | (go_at_call 19; refine (BitsOf_any _ _ (by assumption)).mono ?_; rintro e w' ⟨rfl, rfl⟩))
  all_goals
    go_ret
    exact ⟨rfl, Below.refl _ _⟩

set_option maxHeartbeats 400000 in
theorem fnExactConstants_walk (w : World) :
    Calls Try.prog 3 #[] w fun e w' => e = .returned (.bool true) ∧ Below w.heap.size w w' := by
  go_enter Try.func3, Try.ntmps3
  go_wp2
  go_ret
  exact ⟨rfl, Below.refl _ _⟩

/-! ### Finite -/
set_option maxHeartbeats 400000 in
theorem l01Finite_any (x : Nat) (w : World) :
    Calls Try.prog 24 #[.float .f32 x] w fun e w' => e = .returned (.bool (fin .f32 x)) ∧ ∃ n, w' = w.drewN n := by
  go_enter Try.func24, Try.ntmps24
  go_wp2
  go_ret
  exact ⟨ret_bool (sub_self .f32 x w), _, rfl⟩
set_option maxHeartbeats 400000 in
theorem isFinite_any (x : Nat) (w : World) :
    Calls Try.prog 25 #[.float .f64 x] w fun e w' => e = .returned (.bool (fin .f64 x)) ∧ ∃ n, w' = w.drewN n := by
  go_enter Try.func25, Try.ntmps25
  go_wp2
  go_ret
  exact ⟨ret_bool (sub_self .f64 x w), _, rfl⟩
set_option maxHeartbeats 400000 in
theorem IsFinite_any (x : Nat) (w : World) :
    Calls Try.prog 11 #[.float .f32 x] w fun e w' => e = .returned (.bool (fin .f32 x)) ∧ ∃ n, w' = w.drewN n := by
  go_enter Try.func11, Try.ntmps11
  go_wp2_with (go_at_call 25; refine (isFinite_any _ _).mono ?_; rintro e w' ⟨rfl, n, rfl⟩)
  go_ret
  exact ⟨ret_bool (fin_widen x w), _, rfl⟩
set_option maxHeartbeats 400000 in
theorem fnExactIsFinite_walk (x : Nat) (_ : (Lit.float .f32 x).wf = true) (w : World) :
    Calls Try.prog 4 #[.float .f32 x] w fun e w' => e = .returned (.bool true) ∧ Below w.heap.size w w' := by
  go_enter Try.func4, Try.ntmps4
  go_wp2_with (first | (go_at_call 10; go_in) | (go_at_call 24; refine (l01Finite_any _ _).mono ?_; rintro e w' ⟨rfl, n, rfl⟩) | (go_at_call 11; refine (IsFinite_any _ _).mono ?_; rintro e w' ⟨rfl, n, rfl⟩))
  go_ret
  exact ⟨rfl, below_drewN (Below.refl _ _) _⟩

/-! ### Subnormal -/
set_option maxHeartbeats 400000 in
theorem Abs_any (x : Nat) (w : World) (hw : (Lit.float .f64 x).wf = true) :
    Calls Try.prog 31 #[.float .f64 x] w fun e w' => e = .returned (.float .f64 (rg .f64 x)) ∧ w = w' := by
  have hx := wf_lt64 hw
  have hb := abs_bits hx
  clear hw
  go_enter Try.func31, Try.ntmps31
  go_wp2
  go_ret
  exact ⟨by simp, rfl⟩
def nz (x : Nat) : Bool := FloatKind.f32.format.order x 0 != some .eq
set_option maxHeartbeats 400000 in
theorem implIsSubnormal_any (x : Nat) (w : World) (hw : (Lit.float .f32 x).wf = true) :
    Calls Try.prog 21 #[.float .f32 x] w fun e w' => e = .returned (.bool (nz x && subn x)) ∧ ∃ n, w' = w.drewN n := by
  have h1 := abs_sub x w
  have h2 := cv_wf (k := .f64) w hw
  have hz : (FloatKind.f32.format.order x 0 != some .eq) = nz x := rfl
  clear hw
  cases h : nz x
  · rw [h] at hz
    clear h1
    go_enter Try.func21, Try.ntmps21
    go_wp2
    go_ret
    exact ⟨rfl, 0, rfl⟩
  · rw [h] at hz
    go_enter Try.func21, Try.ntmps21
    go_wp2_with (go_at_call 31; refine (Abs_any _ _ h2).mono ?_; rintro e w' ⟨rfl, rfl⟩)
    go_ret
    exact ⟨by simp, _, rfl⟩
set_option maxHeartbeats 400000 in
theorem specIsSubnormal_any (x : Nat) (w : World) (hw : (Lit.float .f32 x).wf = true) :
    Calls Try.prog 20 #[.float .f32 x] w fun e w' => e = .returned (.bool (nz x && subn x)) ∧ w = w' := by
  have h1 := bits_sub (wf_lt32 hw)
  have hz : (FloatKind.f32.format.order x 0 != some .eq) = nz x := rfl
  cases h : nz x
  · rw [h] at hz
    clear h1
    go_enter Try.func20, Try.ntmps20
    go_wp2
    go_ret
    exact ⟨rfl, rfl⟩
  · rw [h] at hz
    go_enter Try.func20, Try.ntmps20
    go_wp2_with (go_at_call 29; refine (l01Bits_any _ _ hw).mono ?_; rintro e w' ⟨rfl, rfl⟩)
    go_ret
    exact ⟨by simp, rfl⟩
set_option maxHeartbeats 400000 in
theorem fnExactIsSubnormal_walk (x : Nat) (hw : (Lit.float .f32 x).wf = true) (w : World) :
    Calls Try.prog 8 #[.float .f32 x] w fun e w' => e = .returned (.bool true) ∧ Below w.heap.size w w' := by
  go_enter Try.func8, Try.ntmps8
  go_wp2_with (first | (go_at_call 20; refine (specIsSubnormal_any _ _ hw).mono ?_; rintro e w' ⟨rfl, rfl⟩) | (go_at_call 21; refine (implIsSubnormal_any _ _ hw).mono ?_; rintro e w' ⟨rfl, n, rfl⟩))
  go_ret
  exact ⟨rfl, below_drewN (Below.refl _ _) _⟩

/-! ### Grids -/
def inB (n lo hi : Int) : Bool := decide (lo ≤ n ∧ n ≤ hi)
def vg (x y : Int) : Bool := inB x 4 16 && inB y 4 16
theorem inB_yes {n lo hi : Int} (h1 : lo ≤ n) (h2 : n ≤ hi) : inB n lo hi = true := decide_eq_true ⟨h1, h2⟩
theorem inB_no1 {n lo hi : Int} (h1 : ¬ lo ≤ n) : inB n lo hi = false := decide_eq_false fun h => h1 h.1
theorem inB_no2 {n lo hi : Int} (h1 : ¬ n ≤ hi) : inB n lo hi = false := decide_eq_false fun h => h1 h.2
set_option maxHeartbeats 400000 in
theorem l00In_any (n lo hi : Int) (w : World) :
    Calls Try.prog 33 #[.int .i64 n, .int .i64 lo, .int .i64 hi] w fun e w' => e = .returned (.bool (inB n lo hi)) ∧ w = w' := by
  by_cases h1 : lo ≤ n
  · by_cases h2 : n ≤ hi
    · rw [inB_yes h1 h2]
      go_enter Try.func33, Try.ntmps33
      go_wp2
      go_ret
      exact ⟨rfl, rfl⟩
    · rw [inB_no2 h2]
      go_enter Try.func33, Try.ntmps33
      go_wp2
      go_ret
      exact ⟨rfl, rfl⟩
  · rw [inB_no1 h1]
    go_enter Try.func33, Try.ntmps33
    go_wp2
    go_ret
    exact ⟨rfl, rfl⟩
set_option maxHeartbeats 400000 in
theorem within_any (n lo hi : Int) (w : World) :
    Calls Try.prog 28 #[.int .i64 n, .int .i64 lo, .int .i64 hi] w fun e w' => e = .returned (.bool (inB n lo hi)) ∧ w = w' := by
  by_cases h1 : lo ≤ n
  · by_cases h2 : n ≤ hi
    · rw [inB_yes h1 h2]
      go_enter Try.func28, Try.ntmps28
      go_wp2
      go_ret
      exact ⟨rfl, rfl⟩
    · rw [inB_no2 h2]
      go_enter Try.func28, Try.ntmps28
      go_wp2
      go_ret
      exact ⟨rfl, rfl⟩
  · rw [inB_no1 h1]
    go_enter Try.func28, Try.ntmps28
    go_wp2
    go_ret
    exact ⟨rfl, rfl⟩
set_option maxHeartbeats 400000 in
theorem toGrid_any (x y : Int) (w : World) :
    Calls Try.prog 16 #[.agg #[.int .i64 x, .int .i64 y]] w fun e w' => e = .returned (.agg #[.int .i64 x, .int .i64 y]) ∧ Below w.heap.size w w' := by
  go_enter Try.func16, Try.ntmps16
  go_wp2
  refine bodyPost_ret (v := .agg #[.int .i64 x, .int .i64 y]) (by simp [results, Try.results16, go_sem]) rfl ⟨rfl, ?_⟩
  go_grown
set_option maxHeartbeats 400000 in
theorem specValidGrid_any (x y : Int) (w : World) :
    Calls Try.prog 15 #[.agg #[.int .i64 x, .int .i64 y]] w fun e w' => e = .returned (.bool (vg x y)) ∧ Below w.heap.size w w' := by
  unfold vg
  cases h : inB x 4 16
  · go_enter Try.func15, Try.ntmps15
    go_wp2_with (first | (go_at_call 27; go_in) | (go_at_call 33; refine (l00In_any _ _ _ _).mono ?_; rintro e w' ⟨rfl, rfl⟩))
    go_ret
    exact ⟨rfl, by go_grown⟩
  · go_enter Try.func15, Try.ntmps15
    go_wp2_with (first | (go_at_call 27; go_in) | (go_at_call 33; refine (l00In_any _ _ _ _).mono ?_; rintro e w' ⟨rfl, rfl⟩))
    go_ret
    exact ⟨rfl, by go_grown⟩
set_option maxHeartbeats 400000 in
theorem implValidGrid_any (x y : Int) (w : World) :
    Calls Try.prog 17 #[.agg #[.int .i64 x, .int .i64 y]] w fun e w' => e = .returned (.bool (vg x y)) ∧ Below w.heap.size w w' := by
  unfold vg
  cases h : inB x 4 16
  · go_enter Try.func17, Try.ntmps17
    go_wp2_with (go_at_call 28; refine (within_any _ _ _ _).mono ?_; rintro e w' ⟨rfl, rfl⟩)
    go_ret
    exact ⟨rfl, by go_grown⟩
  · go_enter Try.func17, Try.ntmps17
    go_wp2_with (go_at_call 28; refine (within_any _ _ _ _).mono ?_; rintro e w' ⟨rfl, rfl⟩)
    go_ret
    exact ⟨rfl, by go_grown⟩
theorem below_step {w w1 w2 : World} (h1 : Below w.heap.size w w1) (h2 : Below w1.heap.size w1 w2) : Below w.heap.size w w2 := h1.trans (h2.mono h1.size)
theorem bcell {W w1 : World} (hb : Below W.heap.size W w1) : (∀ b o, b < W.heap.size → w1.cell? ⟨b, o, none⟩ = W.cell? ⟨b, o, none⟩) ∧ (∀ b o, b < W.heap.size → w1.frozen? ⟨b, o, none⟩ = W.frozen? ⟨b, o, none⟩) :=
  ⟨fun b o h => hb.cell (p := ⟨b, o, none⟩) h, fun b o h => hb.frozen (p := ⟨b, o, none⟩) h⟩
set_option maxHeartbeats 400000 in
theorem fnExactValidGrid_walk (x y : Int) (_ : (Lit.int .i64 x).wf = true) (_ : (Lit.int .i64 y).wf = true) (w : World) :
    Calls Try.prog 6 #[.agg #[.int .i64 x, .int .i64 y]] w fun e w' => e = .returned (.bool true) ∧ Below w.heap.size w w' := by
  go_enter Try.func6, Try.ntmps6
  go_wp2_with fail
  refine (toGrid_any _ _ _).mono ?_
  rintro e w1 ⟨rfl, hb1⟩
  obtain ⟨hc1, hf1⟩ := bcell hb1
  have hz1 : w.heap.size < w1.heap.size := by have := hb1.size; simp at this; omega
  go_wp2_with fail
  refine (specValidGrid_any _ _ _).mono ?_
  rintro e w2 ⟨rfl, hb2⟩
  obtain ⟨hc2, hf2⟩ := bcell hb2
  have hz2 : w.heap.size < w2.heap.size := by have := hb2.size; omega
  go_wp2_with fail
  refine (toGrid_any _ _ _).mono ?_
  rintro e w3 ⟨rfl, hb3⟩
  go_wp2_with fail
  refine (implValidGrid_any _ _ _).mono ?_
  rintro e w4 ⟨rfl, hb4⟩
  go_wp2
  go_ret
  exact ⟨rfl, ((Below.refl w.heap.size w).alloc (Nat.le_refl _) _).trans ((((hb1.trans (hb2.mono hb1.size)).trans (hb3.mono (Nat.le_trans hb1.size hb2.size))).trans (hb4.mono (Nat.le_trans hb1.size (Nat.le_trans hb2.size hb3.size)))).mono (by simp))⟩
end Go.Proofs.Ytjckdchhakmpmaa
