/-
  FromBits and FlushNumber: both sides, walked; the laws.
-/
import Derived.Test.YtgoeadbjnjkgjaaSame
namespace Go.Proofs.Ytgoeadbjnjkgjaa
open Go.RowKit

/-! ### FromBits -/
set_option maxHeartbeats 400000 in
theorem specFromBits_yes (n : Int) (w : World) (h0 : 0 ≤ n) (h1 : n ≤ 4294967295) :
    Calls Try.prog 14 #[.int .i64 n] w fun e w' => e = .returned (.tuple #[.float .f32 n.toNat, .bool true]) ∧ w = w' := by
  have h := inB_yes h0 h1
  go_enter Try.func14, Try.ntmps14
  go_wp2_with (first | (go_at_call 43; go_in) | (go_at_call 42; refine (l00In_any _ _ _ _).mono ?_; rintro e w' ⟨rfl, rfl⟩))
  go_ret2
  exact ⟨rfl, rfl⟩
set_option maxHeartbeats 400000 in
theorem specFromBits_no (n : Int) (w : World) (h : inB n 0 4294967295 = false) :
    Calls Try.prog 14 #[.int .i64 n] w fun e w' => e = .returned (.tuple #[.float .f32 0, .bool false]) ∧ w = w' := by
  go_enter Try.func14, Try.ntmps14
  go_wp2_with (go_at_call 42; refine (l00In_any _ _ _ _).mono ?_; rintro e w' ⟨rfl, rfl⟩)
  go_ret2
  exact ⟨rfl, rfl⟩
set_option maxHeartbeats 400000 in
theorem implFromBits_yes (n : Int) (w : World) (h0 : 0 ≤ n) (h1 : n ≤ 4294967295) :
    Calls Try.prog 15 #[.int .i64 n] w fun e w' => e = .returned (.tuple #[.float .f32 n.toNat, .bool true]) ∧ w = w' := by
  have h := inB_yes h0 h1
  go_enter Try.func15, Try.ntmps15
  go_wp2_with (go_at_call 44; refine (within_any _ _ _ _).mono ?_; rintro e w' ⟨rfl, rfl⟩)
  go_ret2
  exact ⟨rfl, rfl⟩
set_option maxHeartbeats 400000 in
theorem implFromBits_no (n : Int) (w : World) (h : inB n 0 4294967295 = false) :
    Calls Try.prog 15 #[.int .i64 n] w fun e w' => e = .returned (.tuple #[.float .f32 0, .bool false]) ∧ w = w' := by
  go_enter Try.func15, Try.ntmps15
  go_wp2_with (go_at_call 44; refine (within_any _ _ _ _).mono ?_; rintro e w' ⟨rfl, rfl⟩)
  go_ret2
  exact ⟨rfl, rfl⟩
set_option maxHeartbeats 400000 in
theorem fnExactFromBits_walk (n : Int) (_ : (Lit.int .i64 n).wf = true) (w : World) :
    Calls Try.prog 3 #[.int .i64 n] w fun e w' => e = .returned (.bool true) ∧ Below w.heap.size w w' := by
  by_cases h : 0 ≤ n ∧ n ≤ 4294967295
  · obtain ⟨h0, h1⟩ := h
    go_enter Try.func3, Try.ntmps3
    go_wp2_with (first | (go_at_call 14; refine (specFromBits_yes _ _ h0 h1).mono ?_; rintro e w' ⟨rfl, rfl⟩) | (go_at_call 15; refine (implFromBits_yes _ _ h0 h1).mono ?_; rintro e w' ⟨rfl, rfl⟩) | (go_at_call 16; refine (sameFloat_any _ _ _ (by rw [cn_widen, cn_widen])).mono ?_; rintro e w' ⟨rfl, n, rfl⟩))
    go_ret
    exact ⟨rfl, below_drewN (Below.refl _ _) _⟩
  · have hi : inB n 0 4294967295 = false := decide_eq_false h
    clear h
    go_enter Try.func3, Try.ntmps3
    go_wp2_with (first | (go_at_call 14; refine (specFromBits_no _ _ hi).mono ?_; rintro e w' ⟨rfl, rfl⟩) | (go_at_call 15; refine (implFromBits_no _ _ hi).mono ?_; rintro e w' ⟨rfl, rfl⟩) | (go_at_call 16; refine (sameFloat_any _ _ _ (by rw [cn_widen, cn_widen])).mono ?_; rintro e w' ⟨rfl, n, rfl⟩))
    go_ret
    exact ⟨rfl, below_drewN (Below.refl _ _) _⟩

/-! ### FlushNumber -/
def flushW (x : Nat) : Nat := if subn x then x / 2147483648 % 2 * 2147483648 else x
theorem subn_fin {x : Nat} (h : subn x = true) : fin .f32 x = true := by
  have := of_decide_eq_true h
  unfold fin
  rw [inf32]
  exact decide_eq_true (by omega)
theorem sign_i64 (x : Nat) (hx : x < 4294967296) : bits .and .i64 (x : Int) 2147483648 = ((x / 2147483648 % 2 * 2147483648 : Nat) : Int) := by
  have h := and_i64_nat x 2147483648 (by omega) (by decide)
  rw [show ((2147483648 : Nat) : Int) = 2147483648 from rfl] at h
  rw [h]
  congr 1
  apply Nat.eq_of_testBit_eq
  intro i
  rw [Nat.testBit_and, show 2147483648 = 2 ^ 31 from rfl, Nat.testBit_two_pow, ← Nat.shiftLeft_eq, Nat.testBit_shiftLeft]
  by_cases h : 31 = i
  · subst h
    simp [Nat.testBit, Nat.shiftRight_eq_div_pow]
  · by_cases h2 : 31 ≤ i
    · have : 0 < i - 31 := by omega
      obtain ⟨j, hj⟩ : ∃ j, i - 31 = j + 1 := ⟨i - 31 - 1, by omega⟩
      rw [hj]
      have hlt : (x / 2 ^ 31 % 2).testBit (j + 1) = false := by
        apply Nat.testBit_lt_two_pow
        have h3 : x / 2 ^ 31 % 2 < 2 := Nat.mod_lt _ (by omega)
        have h4 : 2 ≤ 2 ^ (j + 1) := by rw [Nat.pow_succ]; have := Nat.two_pow_pos j; omega
        omega
      simp [h, hlt]
    · simp [h, h2]
theorem sign_u64 (x : Nat) (hx : x < 18446744073709551616) : bits .and .u64 (x : Int) 9223372036854775808 = ((x / 9223372036854775808 % 2 * 9223372036854775808 : Nat) : Int) := by
  have h := u64_and_nat x 9223372036854775808 hx (by decide)
  rw [show ((9223372036854775808 : Nat) : Int) = 9223372036854775808 from rfl] at h
  rw [h]
  congr 1
  apply Nat.eq_of_testBit_eq
  intro i
  rw [Nat.testBit_and, show 9223372036854775808 = 2 ^ 63 from rfl, Nat.testBit_two_pow, ← Nat.shiftLeft_eq, Nat.testBit_shiftLeft]
  by_cases h : 63 = i
  · subst h
    simp [Nat.testBit, Nat.shiftRight_eq_div_pow]
  · by_cases h2 : 63 ≤ i
    · have : 0 < i - 63 := by omega
      obtain ⟨j, hj⟩ : ∃ j, i - 63 = j + 1 := ⟨i - 63 - 1, by omega⟩
      rw [hj]
      have hlt : (x / 2 ^ 63 % 2).testBit (j + 1) = false := by
        apply Nat.testBit_lt_two_pow
        have h3 : x / 2 ^ 63 % 2 < 2 := Nat.mod_lt _ (by omega)
        have h4 : 2 ≤ 2 ^ (j + 1) := by rw [Nat.pow_succ]; have := Nat.two_pow_pos j; omega
        omega
      simp [h, hlt]
    · simp [h, h2]
theorem or_zero_u64 (z : Nat) (hz : z < 18446744073709551616) : bits .or .u64 0 (z : Int) = (z : Int) := by
  have h := u64_or_nat 0 z (by omega) hz
  rw [show ((0 : Nat) : Int) = 0 from rfl] at h
  rw [h, Nat.zero_or]
set_option maxHeartbeats 400000 in
theorem specFlush_any (x : Nat) (w : World) (hw : (Lit.float .f32 x).wf = true) :
    Calls Try.prog 17 #[.float .f32 x] w fun e w' => e = .returned (.float .f32 (flushW x)) ∧ w = w' := by
  have h1 := bits_sub (wf_lt32 hw)
  unfold flushW
  cases h : subn x
  · rw [h] at h1
    go_enter Try.func17, Try.ntmps17
    go_wp2_with (first | (go_at_call 46; go_in) | (go_at_call 65; refine (l01Bits_any _ _ hw).mono ?_; rintro e w' ⟨rfl, rfl⟩))
    go_ret
    exact ⟨rfl, rfl⟩
  · rw [h] at h1
    have hn := cn_of_not (isN_of_fin (subn_fin h))
    rw [hn] at h1
    have h2 := sign_i64 x (wf_lt32 hw)
    have hm : x / 2147483648 % 2 < 2 := Nat.mod_lt _ (by omega)
    obtain ⟨z, hz⟩ : ∃ z, z = x / 2147483648 % 2 * 2147483648 := ⟨_, rfl⟩
    rw [← hz] at h2 ⊢
    have hz1 : z ≤ 2147483648 := by omega
    clear hz hm
    go_enter Try.func17, Try.ntmps17
    go_wp2_with (first | (go_at_call 46; go_in) | (go_at_call 43; go_in) | (go_at_call 65; refine (l01Bits_any _ _ hw).mono ?_; rintro e w' ⟨rfl, rfl⟩))
    go_ret
    exact ⟨by simp, rfl⟩
set_option maxHeartbeats 400000 in
theorem Copysign_any (y : Nat) (w : World) (hw : (Lit.float .f64 y).wf = true) :
    Calls Try.prog 48 #[.float .f64 0, .float .f64 y] w fun e w' => e = .returned (.float .f64 (y / 9223372036854775808 % 2 * 9223372036854775808)) ∧ w = w' := by
  have h1 := sign_u64 y (wf_lt64 hw)
  have hm : y / 9223372036854775808 % 2 < 2 := Nat.mod_lt _ (by omega)
  obtain ⟨z, hz⟩ : ∃ z, z = y / 9223372036854775808 % 2 * 9223372036854775808 := ⟨_, rfl⟩
  rw [← hz] at h1 ⊢
  have h2 := or_zero_u64 z (by omega)
  have h3 : bits .andNot .u64 0 9223372036854775808 = 0 := by decide +kernel
  clear hz hm hw
  go_enter Try.func48, Try.ntmps48
  go_wp2
  go_ret
  exact ⟨by simp, rfl⟩
theorem nz_no {x : Nat} (hf : fin .f32 x = true) (h : nz x = false) : rg .f32 x = 0 := by
  have h1 : (FloatKind.f32.format.order x 0 == some .eq) = true := by simpa [nz] using h
  have h0 : fin .f32 0 = true := by decide +kernel
  rw [eq_fin hf h0] at h1
  have h2 := of_decide_eq_true h1
  have h3 : wv .f32 0 = 0 := by
    rw [wv_pos_word (by rw [sw32]; omega), rv_zero]
  rw [h3] at h2
  by_cases hr : rg .f32 x = 0
  · exact hr
  · have hi : rg .f32 x < 2139095040 := by have := of_decide_eq_true hf; rwa [inf32] at this
    have h4 := rv_pos FloatKind.f32.format (r := rg .f32 x) (by rw [inf32]; omega) (by omega)
    unfold wv at h2
    split at h2
    · exfalso; grind
    · exfalso; grind
theorem narrow_zero (W : World) (s : Bool) : cv .f64 .f32 (if s then 9223372036854775808 else 0) W = (if s then 2147483648 else 0) ∧ cd .f64 .f32 (if s then 9223372036854775808 else 0) = 0 := by
  cases s
  · have h : floatToFloatBits .f64 0 .f32 = some 0 := by decide +kernel
    simp [cv, cd, h]
  · have h : floatToFloatBits .f64 9223372036854775808 .f32 = some 2147483648 := by decide +kernel
    simp [cv, cd, h]
theorem sign_widen {x : Nat} (h : fin .f32 x = true) (W : World) : cv .f32 .f64 x W / 9223372036854775808 % 2 * 9223372036854775808 = (if sg .f32 x then 9223372036854775808 else 0) := by
  have hl := wr_lt h
  have h1 : cv .f32 .f64 x W = FloatKind.f64.format.word (sg .f32 x) (wr x) := by
    unfold cv; rw [widen_fin h]; rfl
  have h2 := sg_word .f64 (sg .f32 x) (r := wr x) (by rw [inf64]; omega)
  rw [← h1] at h2
  unfold sg at h2
  rw [sw64] at h2
  unfold sg
  rw [sw32] at h2 ⊢
  rw [← h2]
  have h3 : cv .f32 .f64 x W / 9223372036854775808 % 2 < 2 := Nat.mod_lt _ (by omega)
  generalize cv .f32 .f64 x W / 9223372036854775808 % 2 = q at *
  have : q = 0 ∨ q = 1 := by omega
  rcases this with rfl | rfl <;> rfl
theorem sign_small (x : Nat) : x / 2147483648 % 2 * 2147483648 = (if sg .f32 x then 2147483648 else 0) := by
  unfold sg
  rw [sw32]
  have h3 : x / 2147483648 % 2 < 2 := Nat.mod_lt _ (by omega)
  generalize x / 2147483648 % 2 = q at *
  have : q = 0 ∨ q = 1 := by omega
  rcases this with rfl | rfl <;> rfl
set_option maxHeartbeats 400000 in
theorem implFlush_any (x : Nat) (w : World) (hw : (Lit.float .f32 x).wf = true) :
    Calls Try.prog 18 #[.float .f32 x] w fun e w' => e = .returned (.float .f32 (flushW x)) ∧ ∃ n, w' = w.drewN n := by
  have hx := wf_lt32 hw
  by_cases hs : subn x = true
  · have hf := subn_fin hs
    by_cases hz : nz x = true
    · have hb : (nz x && subn x) = true := by rw [hs, hz]; rfl
      have hfl : flushW x = (if sg .f32 x then 2147483648 else 0) := by unfold flushW; rw [if_pos hs, sign_small]
      rw [hfl]
      have hsw := sign_widen hf
      have hnz := fun W => narrow_zero W (sg .f32 x)
      clear hfl hs hz hf
      go_enter Try.func18, Try.ntmps18
      go_wp2_with (first | (go_at_call 47; refine (implIsSubnormal_any _ _ hw).mono ?_; rintro e w' ⟨rfl, n, rfl⟩) | (go_at_call 48; refine (Copysign_any _ _ (cv_wf _ hw)).mono ?_; rintro e w' ⟨rfl, rfl⟩))
      all_goals
        go_ret
        exact ⟨rfl, _, rfl⟩
    · have hz' : nz x = false := by simpa using hz
      have hb : (nz x && subn x) = false := by rw [hz']; rfl
      have hr := nz_no hf hz'
      have hfl : flushW x = x := by
        unfold flushW
        rw [if_pos hs]
        unfold rg at hr
        rw [sw32] at hr
        omega
      rw [hfl]
      clear hfl hs hz hz' hf hr hx
      go_enter Try.func18, Try.ntmps18
      go_wp2_with (go_at_call 47; refine (implIsSubnormal_any _ _ hw).mono ?_; rintro e w' ⟨rfl, n, rfl⟩)
      go_ret
      exact ⟨rfl, _, rfl⟩
  · have hs' : subn x = false := by simpa using hs
    have hb : (nz x && subn x) = false := by rw [hs']; simp
    have hfl : flushW x = x := by unfold flushW; rw [if_neg hs]
    rw [hfl]
    clear hfl hs hs' hx
    go_enter Try.func18, Try.ntmps18
    go_wp2_with (go_at_call 47; refine (implIsSubnormal_any _ _ hw).mono ?_; rintro e w' ⟨rfl, n, rfl⟩)
    go_ret
    exact ⟨rfl, _, rfl⟩
set_option maxHeartbeats 400000 in
theorem fnExactFlushNumber_walk (x : Nat) (hw : (Lit.float .f32 x).wf = true) (w : World) :
    Calls Try.prog 4 #[.float .f32 x] w fun e w' => e = .returned (.bool true) ∧ Below w.heap.size w w' := by
  go_enter Try.func4, Try.ntmps4
  go_wp2_with (first | (go_at_call 17; refine (specFlush_any _ _ hw).mono ?_; rintro e w' ⟨rfl, rfl⟩) | (go_at_call 18; refine (implFlush_any _ _ hw).mono ?_; rintro e w' ⟨rfl, n, rfl⟩) | (go_at_call 16; refine (sameFloat_any _ _ _ (by rw [cn_widen, cn_widen])).mono ?_; rintro e w' ⟨rfl, n, rfl⟩))
  go_ret
  exact ⟨rfl, below_drewN (Below.refl _ _) _⟩
end Go.Proofs.Ytgoeadbjnjkgjaa
