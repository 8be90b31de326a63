/-
  Contracts of the small functions: bits, subnormal numbers, bounds, grids.
-/
import Derived.Test.YtgoeadbjnjkgjaaExt
import Derived.Test.YtgoeadbjnjkgjaaOrd
import Derived.Handy
namespace Go.Proofs.Ytgoeadbjnjkgjaa
open Go.RowKit

theorem l01Bits_any (x : Nat) (w : World) (hw : (Lit.float .f32 x).wf = true) :
    Calls Try.prog 65 #[.float .f32 x] w fun e w' => e = .returned (.int .i64 (cn .f32 x : Nat)) ∧ w = w' := by
  have hx := wf_lt32 hw
  have ho := order_self .f32 x
  cases h : isN .f32 x
  · rw [cn_of_not h]
    rw [h, if_neg (by simp)] at ho
    clear hw h
    go_enter Try.func65, Try.ntmps65
    go_wp2
    go_ret
    exact ⟨rfl, rfl⟩
  · rw [cn_of_nan h]
    rw [h, if_pos rfl] at ho
    clear hw h
    go_enter Try.func65, Try.ntmps65
    go_wp2
    go_ret
    exact ⟨rfl, rfl⟩
theorem Abs_any (x : Nat) (w : World) (hw : (Lit.float .f64 x).wf = true) :
    Calls Try.prog 66 #[.float .f64 x] w fun e w' => e = .returned (.float .f64 (rg .f64 x)) ∧ w = w' := by
  have hx := wf_lt64 hw
  have hb := abs_bits hx
  clear hw
  go_enter Try.func66, Try.ntmps66
  go_wp2
  go_ret
  exact ⟨by simp, rfl⟩
def nz (x : Nat) : Bool := FloatKind.f32.format.order x 0 != some .eq
theorem implIsSubnormal_any (x : Nat) (w : World) (hw : (Lit.float .f32 x).wf = true) :
    Calls Try.prog 47 #[.float .f32 x] w fun e w' => e = .returned (.bool (nz x && subn x)) ∧ ∃ n, w' = w.drewN n := by
  have h1 := abs_sub x w
  have h2 := cv_wf (k := .f64) w hw
  have hz : (FloatKind.f32.format.order x 0 != some .eq) = nz x := rfl
  clear hw
  cases h : nz x
  · rw [h] at hz
    clear h1
    go_enter Try.func47, Try.ntmps47
    go_wp2
    go_ret
    exact ⟨rfl, 0, rfl⟩
  · rw [h] at hz
    go_enter Try.func47, Try.ntmps47
    go_wp2_with (go_at_call 66; refine (Abs_any _ _ h2).mono ?_; rintro e w' ⟨rfl, rfl⟩)
    go_ret
    exact ⟨by simp, _, rfl⟩
def inB (n lo hi : Int) : Bool := decide (lo ≤ n ∧ n ≤ hi)
theorem inB_yes {n lo hi : Int} (h1 : lo ≤ n) (h2 : n ≤ hi) : inB n lo hi = true := decide_eq_true ⟨h1, h2⟩
theorem inB_no1 {n lo hi : Int} (h1 : ¬ lo ≤ n) : inB n lo hi = false := decide_eq_false fun h => h1 h.1
theorem inB_no2 {n lo hi : Int} (h1 : ¬ n ≤ hi) : inB n lo hi = false := decide_eq_false fun h => h1 h.2
theorem l00In_any (n lo hi : Int) (w : World) :
    Calls Try.prog 42 #[.int .i64 n, .int .i64 lo, .int .i64 hi] w fun e w' => e = .returned (.bool (inB n lo hi)) ∧ w = w' := by
  by_cases h1 : lo ≤ n
  · by_cases h2 : n ≤ hi
    · rw [inB_yes h1 h2]
      go_enter Try.func42, Try.ntmps42
      go_wp2
      go_ret
      exact ⟨rfl, rfl⟩
    · rw [inB_no2 h2]
      go_enter Try.func42, Try.ntmps42
      go_wp2
      go_ret
      exact ⟨rfl, rfl⟩
  · rw [inB_no1 h1]
    go_enter Try.func42, Try.ntmps42
    go_wp2
    go_ret
    exact ⟨rfl, rfl⟩
theorem within_any (n lo hi : Int) (w : World) :
    Calls Try.prog 44 #[.int .i64 n, .int .i64 lo, .int .i64 hi] w fun e w' => e = .returned (.bool (inB n lo hi)) ∧ w = w' := by
  by_cases h1 : lo ≤ n
  · by_cases h2 : n ≤ hi
    · rw [inB_yes h1 h2]
      go_enter Try.func44, Try.ntmps44
      go_wp2
      go_ret
      exact ⟨rfl, rfl⟩
    · rw [inB_no2 h2]
      go_enter Try.func44, Try.ntmps44
      go_wp2
      go_ret
      exact ⟨rfl, rfl⟩
  · rw [inB_no1 h1]
    go_enter Try.func44, Try.ntmps44
    go_wp2
    go_ret
    exact ⟨rfl, rfl⟩
def vg (x y : Int) : Bool := inB x 4 16 && inB y 4 16
theorem toGrid_any (x y : Int) (w : World) :
    Calls Try.prog 22 #[.agg #[.int .i64 x, .int .i64 y]] w fun e w' => e = .returned (.agg #[.int .i64 x, .int .i64 y]) ∧ Below w.heap.size w w' := by
  go_enter Try.func22, Try.ntmps22
  go_wp2
  refine bodyPost_ret (v := .agg #[.int .i64 x, .int .i64 y]) (by simp [results, Try.results22, go_sem]) rfl ⟨rfl, ?_⟩
  go_grown
theorem implValidGrid_any (x y : Int) (w : World) :
    Calls Try.prog 51 #[.agg #[.int .i64 x, .int .i64 y]] w fun e w' => e = .returned (.bool (vg x y)) ∧ Below w.heap.size w w' := by
  unfold vg
  cases h : inB x 4 16
  · go_enter Try.func51, Try.ntmps51
    go_wp2_with (go_at_call 44; refine (within_any _ _ _ _).mono ?_; rintro e w' ⟨rfl, rfl⟩)
    go_ret
    exact ⟨rfl, by go_grown⟩
  · go_enter Try.func51, Try.ntmps51
    go_wp2_with (go_at_call 44; refine (within_any _ _ _ _).mono ?_; rintro e w' ⟨rfl, rfl⟩)
    go_ret
    exact ⟨rfl, by go_grown⟩
theorem below_step {w w1 w2 : World} (h1 : Below w.heap.size w w1) (h2 : Below w1.heap.size w1 w2) : Below w.heap.size w w2 := h1.trans (h2.mono h1.size)
theorem bcell {W w1 : World} (hb : Below W.heap.size W w1) : (∀ b o, b < W.heap.size → w1.cell? ⟨b, o, none⟩ = W.cell? ⟨b, o, none⟩) ∧ (∀ b o, b < W.heap.size → w1.frozen? ⟨b, o, none⟩ = W.frozen? ⟨b, o, none⟩) :=
  ⟨fun b o h => hb.cell (p := ⟨b, o, none⟩) h, fun b o h => hb.frozen (p := ⟨b, o, none⟩) h⟩
end Go.Proofs.Ytgoeadbjnjkgjaa
