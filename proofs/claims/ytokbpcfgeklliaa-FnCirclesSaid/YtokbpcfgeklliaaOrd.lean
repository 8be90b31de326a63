/-
  Comparisons of words by their values and by their rungs; masks of bits; the absolute value. Plain facts on words; no function of the program.
-/
import Derived.Test.YtokbpcfgeklliaaWd
namespace Go.Proofs.Ytokbpcfgeklliaa
open Ieee

/-- A signed value. -/
def sv (s : Bool) (m : Nat) (e : Int) : Rat := if s then - vl m e else vl m e
/-- The value of a word of a finite number. -/
def wv (k : FloatKind) (b : Nat) : Rat := if sg k b then - rv k.format (rg k b) else rv k.format (rg k b)

theorem signed_vl (s : Bool) (m : Nat) (n : Nat) (g : Int) : sv s m (g + n) = ((signed s m n : Int) : Rat) * (2 : Rat) ^ g := by
  have h : vl m (g + n) = vl (m * 2 ^ n) g := by
    rw [vl_to m (show g ≤ g + n by omega)]
    congr 3
    omega
  unfold sv signed
  rw [h, Nat.shiftLeft_eq]
  unfold vl
  cases s
  · simp only [Bool.false_eq_true, if_false, Rat.intCast_natCast]
  · simp only [if_true, Rat.intCast_neg, Rat.intCast_natCast, Rat.neg_mul]
theorem signed_at (s : Bool) (m : Nat) {i g : Int} (h : g ≤ i) : sv s m i = ((signed s m (i - g).toNat : Int) : Rat) * (2 : Rat) ^ g := by
  rw [← signed_vl]
  congr 1
  omega
theorem icast_lt {a b : Int} {g : Int} : ((a : Int) : Rat) * (2 : Rat) ^ g < ((b : Int) : Rat) * (2 : Rat) ^ g ↔ a < b := by
  constructor
  · intro h
    exact Rat.intCast_lt_intCast.1 (Rat.lt_of_mul_lt_mul_right h (Rat.le_of_lt (p2_pos g)))
  · intro h
    exact Rat.mul_lt_mul_of_pos_right (Rat.intCast_lt_intCast.2 h) (p2_pos g)
theorem icast_eq {a b : Int} {g : Int} : ((a : Int) : Rat) * (2 : Rat) ^ g = ((b : Int) : Rat) * (2 : Rat) ^ g ↔ a = b := by
  constructor
  · intro h
    have h1 : ¬ a < b := fun hh => by have := icast_lt (g := g).2 hh; rw [h] at this; exact absurd this Rat.lt_irrefl
    have h2 : ¬ b < a := fun hh => by have := icast_lt (g := g).2 hh; rw [h] at this; exact absurd this Rat.lt_irrefl
    omega
  · rintro rfl; rfl
theorem order_num (s t : Bool) (m n : Nat) (i j : Int) :
    (Datum.number s m i).order (.number t n j) = some (if sv s m i < sv t n j then .lt else if sv s m i = sv t n j then .eq else .gt) := by
  have h1 := signed_at s m (Int.min_le_left i j)
  have h2 := signed_at t n (Int.min_le_right i j)
  simp only [Datum.order, h1, h2, icast_lt, icast_eq]
  simp only [compare, compareOfLessAndEq]
theorem sv_rv (k : FloatKind) (b : Nat) : sv (sg k b) (mg k.format (rg k b)) (pl k.format (rg k b)) = wv k b := rfl
theorem order_fin {k : FloatKind} {x y : Nat} (hx : fin k x = true) (hy : fin k y = true) :
    k.format.order x y = some (if wv k x < wv k y then .lt else if wv k x = wv k y then .eq else .gt) := by
  unfold Format.order
  rw [read_fin hx, read_fin hy, order_num, sv_rv, sv_rv]
theorem lt_fin {k : FloatKind} {x y : Nat} (hx : fin k x = true) (hy : fin k y = true) : (k.format.order x y == some .lt) = decide (wv k x < wv k y) := by
  rw [order_fin hx hy]
  by_cases h : wv k x < wv k y
  · simp [h]
  · rw [if_neg h]
    split <;> simp [h]
theorem gt_fin {k : FloatKind} {x y : Nat} (hx : fin k x = true) (hy : fin k y = true) : (k.format.order x y == some .gt) = decide (wv k y < wv k x) := by
  rw [order_fin hx hy]
  by_cases h : wv k x < wv k y
  · have : ¬ wv k y < wv k x := by grind
    simp [h, this]
  · rw [if_neg h]
    by_cases h2 : wv k x = wv k y
    · have : ¬ wv k y < wv k x := by grind
      simp [h2]
    · have : wv k y < wv k x := by grind
      simp [h2, this]
theorem eq_fin {k : FloatKind} {x y : Nat} (hx : fin k x = true) (hy : fin k y = true) : (k.format.order x y == some .eq) = decide (wv k x = wv k y) := by
  rw [order_fin hx hy]
  by_cases h : wv k x < wv k y
  · have : ¬ wv k x = wv k y := by grind
    simp [h, this]
  · rw [if_neg h]
    by_cases h2 : wv k x = wv k y <;> simp [h2]
theorem rv_nonneg (f : Format) (r : Nat) : 0 ≤ rv f r := vl_nonneg _ _
theorem rv_zero (f : Format) : rv f 0 = 0 := by
  unfold rv mg
  rw [if_pos (binade_pos f)]
  simp [vl]
theorem rv_pos (f : Format) {r : Nat} (hr : r ≤ f.infRung) (h : 0 < r) : 0 < rv f r := by
  have := rv_lt f hr h
  rwa [rv_zero] at this
theorem rv_lt_iff (f : Format) {r s : Nat} (hr : r ≤ f.infRung) (hs : s ≤ f.infRung) : rv f r < rv f s ↔ r < s := by
  constructor
  · intro h
    by_cases hh : r < s
    · exact hh
    · have := rv_le f hr (show s ≤ r by omega)
      grind
  · exact rv_lt f hs
theorem wv_pos_word {k : FloatKind} {r : Nat} (h : r < k.format.signWeight) : wv k r = rv k.format r := by
  have h1 : rg k r = r := Nat.mod_eq_of_lt h
  have h2 : sg k r = false := by unfold sg; rw [Nat.div_eq_of_lt h]; rfl
  unfold wv
  rw [h1, h2]
  simp
theorem fin_lt {k : FloatKind} {r : Nat} (h : r < k.format.infRung) : fin k r = true ∧ r < k.format.signWeight := by
  have h1 := k.format.infRung_lt
  have h2 : rg k r = r := Nat.mod_eq_of_lt (by omega)
  exact ⟨by unfold fin; rw [h2]; exact decide_eq_true h, by omega⟩
/-- Two words without a sign are told by their rungs. -/
theorem lt_rung {k : FloatKind} {r s : Nat} (hr : r < k.format.infRung) (hs : s < k.format.infRung) : (k.format.order r s == some .lt) = decide (r < s) := by
  rw [lt_fin (fin_lt hr).1 (fin_lt hs).1, wv_pos_word (fin_lt hr).2, wv_pos_word (fin_lt hs).2]
  exact decide_eq_decide.2 (rv_lt_iff _ (by omega) (by omega))

/-! ### Masks -/
theorem and_i64_nat (a b : Nat) (ha : a < 9223372036854775808) (hb : b < 9223372036854775808) : bits .and .i64 (a : Int) (b : Int) = ((a &&& b : Nat) : Int) := by
  have h : (BitVec.ofInt 64 (a : Int) &&& BitVec.ofInt 64 (b : Int)).toNat = a &&& b := by
    rw [BitVec.toNat_and, BitVec.ofInt_natCast, BitVec.ofInt_natCast, BitVec.toNat_ofNat, BitVec.toNat_ofNat, Nat.mod_eq_of_lt (by omega), Nat.mod_eq_of_lt (by omega)]
  have hle : a &&& b ≤ a := Nat.and_le_left
  show IntKind.i64.wrap ((BitVec.ofInt 64 (a : Int) &&& BitVec.ofInt 64 (b : Int)).toNat : Int) = _
  rw [h]
  exact IntWalk.i64_in _ (by omega)
theorem abs_bits {b : Nat} (h : b < 18446744073709551616) : bits .andNot .u64 (b : Int) 9223372036854775808 = ((rg .f64 b : Nat) : Int) := by
  have := u64_andNot_nat b 9223372036854775808 h (by decide)
  rw [show ((9223372036854775808 : Nat) : Int) = 9223372036854775808 from rfl] at this
  rw [this]
  unfold rg
  rw [sw64, show 18446744073709551615 - 9223372036854775808 = 2 ^ 63 - 1 from rfl, Nat.and_two_pow_sub_one_eq_mod]

/-- The exponent field of a 32-bit word is nought just where the rung lies below the normal numbers. -/
theorem exp_bits (x : Nat) : (x &&& 2139095040 = 0) ↔ rg .f32 x < 8388608 := by
  unfold rg
  rw [sw32]
  have e1 : (2139095040 : Nat) = (2 ^ 8 - 1) <<< 23 := by decide
  have e2 : x &&& 2139095040 = ((x >>> 23) % 2 ^ 8) <<< 23 := by
    apply Nat.eq_of_testBit_eq
    intro i
    rw [e1, Nat.testBit_and, Nat.testBit_shiftLeft, Nat.testBit_shiftLeft, Nat.testBit_mod_two_pow, Nat.testBit_shiftRight, Nat.testBit_two_pow_sub_one]
    by_cases h : 23 ≤ i
    · have : 23 + (i - 23) = i := by omega
      simp [h, this, Bool.and_comm]
    · simp [h]
  rw [e2, Nat.shiftLeft_eq, Nat.shiftRight_eq_div_pow]
  omega
theorem cut_wf (k : FloatKind) (x y t : Nat) : (Lit.float k (Question.cut (.nanBits k x y) t)).wf = true := by
  cases k
  · refine decide_eq_true (show Question.cut (.nanBits .f32 x y) t < 4294967296 from ?_)
    simp only [Question.cut]
    omega
  · refine decide_eq_true (show Question.cut (.nanBits .f64 x y) t < 18446744073709551616 from ?_)
    simp only [Question.cut]
    omega
theorem fv_wf (op : BinOp) (k : FloatKind) (x y : Nat) (w : World) : (Lit.float k (fv op k x y w)).wf = true := by
  unfold fv
  cases h : floatBits op k x y with
  | some r => exact floatBits_wf h
  | none => exact cut_wf k x y _
theorem cv_wf {s k : FloatKind} {b : Nat} (w : World) (h : (Lit.float s b).wf = true) : (Lit.float k (cv s k b w)).wf = true := by
  unfold cv
  cases hf : floatToFloatBits s b k with
  | some r => exact floatToFloatBits_wf h hf
  | none =>
    simp only [Option.getD]
    split
    · have h1 := cut_wf k b b (w.tape w.drawn (.nanConv k b))
      cases k <;> exact h1
    · have : Question.cut (.floatToFloat b) (w.tape w.drawn (.floatToFloat b)) < 4294967296 := by
        simp only [Question.cut]
        omega
      cases k
      · exact decide_eq_true this
      · exact decide_eq_true (Nat.lt_trans this (by decide))

/-! ### Subnormal numbers -/
def subn (x : Nat) : Bool := decide (rg .f32 x < 8388608)
theorem bits_sub {x : Nat} (h : x < 4294967296) : (bits .and .i64 ((cn .f32 x : Nat) : Int) 2139095040 == 0) = subn x := by
  have hc : cn .f32 x < 9223372036854775808 := by
    unfold cn
    split
    · decide
    · omega
  have h1 := and_i64_nat (cn .f32 x) 2139095040 hc (by decide)
  rw [show ((2139095040 : Nat) : Int) = 2139095040 from rfl] at h1
  rw [h1]
  unfold subn
  cases hn : isN .f32 x
  · rw [cn_of_not hn]
    have := exp_bits x
    by_cases h0 : x &&& 2139095040 = 0
    · have h2 := this.1 h0
      rw [h0]
      simp [h2]
    · have h2 : ¬ rg .f32 x < 8388608 := fun hh => h0 (this.2 hh)
      simp [h2]
      omega
  · rw [cn_of_nan hn]
    have h2 : ¬ rg .f32 x < 8388608 := by
      rw [isN_iff, inf32] at hn
      have := of_decide_eq_true hn
      unfold rg
      omega
    simp only [h2, decide_false]
    decide +kernel
theorem wr_sub {b : Nat} (h : fin .f32 b = true) : (wr b < 4039728865751334912) ↔ rg .f32 b < 8388608 := by
  have h0 : rg .f32 b < 2139095040 := by have := of_decide_eq_true h; rwa [inf32] at this
  constructor
  · intro hw
    by_cases hh : rg .f32 b < 8388608
    · exact hh
    · exfalso
      have h1 : rv FloatKind.f32.format 8388608 ≤ rv FloatKind.f32.format (rg .f32 b) := rv_le _ (by rw [inf32]; omega) (by omega)
      have h2 : rv FloatKind.f32.format 8388608 = vl 8388608 (-149) := vl_rung (by decide +kernel) (by decide +kernel)
      have h3 : vl 4503599627370496 (-178) ≤ vl 8388608 (-149) := by
        rw [vl_to 8388608 (show (-178 : Int) ≤ -149 by omega)]
        exact vl_le_same.2 (by decide +kernel)
      have := nr_ge FloatKind.f64.format (m := mg FloatKind.f32.format (rg .f32 b)) (e := pl FloatKind.f32.format (rg .f32 b)) (c := 4503599627370496) (g := -178) (by rw [lp64]; omega) (by rw [bin64]; omega) (.inl (by rw [bin64]; omega))
        (rle_trans h3 (by rw [← h2]; exact h1)) (by rw [lp64, bin64, inf64]; decide +kernel)
      rw [lp64, bin64] at this
      have h4 : 4039728865751334912 ≤ wr b := Nat.le_trans (by decide +kernel) this
      exact absurd hw (Nat.not_lt.2 h4)
  · intro hh
    have h1 : rv FloatKind.f32.format (rg .f32 b) ≤ rv FloatKind.f32.format 8388607 := rv_le _ (by rw [inf32]; omega) (by omega)
    have h2 : rv FloatKind.f32.format 8388607 = vl 8388607 (-149) := vl_rung (by decide +kernel) (by decide +kernel)
    have h3 : vl 8388607 (-149) ≤ vl 9007198180999168 (-179) := by
      rw [vl_to 8388607 (show (-179 : Int) ≤ -149 by omega)]
      exact vl_le_same.2 (by decide +kernel)
    have := nr_le FloatKind.f64.format (m := mg FloatKind.f32.format (rg .f32 b)) (e := pl FloatKind.f32.format (rg .f32 b)) (c := 9007198180999168) (g := -179) (by rw [lp64]; omega) (by rw [bin64]; omega) (.inl (by rw [bin64]; omega))
      (rle_trans h1 (by rw [h2]; exact h3))
    rw [lp64, bin64] at this
    exact Nat.lt_of_le_of_lt this (by decide +kernel)
/-- The absolute value of the number as a 64-bit one is less than the least normal number: subnormal, or zero. -/
theorem abs_sub (x : Nat) (w : World) : (FloatKind.f64.format.order (rg .f64 (cv .f32 .f64 x w)) 4039728865751334912 == some .lt) = subn x := by
  unfold subn
  cases hn : isN .f32 x
  · have hi : rg .f32 x ≤ 2139095040 := by
      rw [isN_iff, inf32] at hn
      have := of_decide_eq_false hn
      unfold rg
      omega
    unfold cv
    cases hf : fin .f32 x
    · rw [widen_inf hn hf]
      show (FloatKind.f64.format.order (rg .f64 (FloatKind.f64.format.word _ _)) _ == some .lt) = _
      rw [rg_word .f64 _ (Nat.le_refl _), inf64]
      have h2 : ¬ rg .f32 x < 8388608 := by
        have := (read_inf hn hf).2
        rw [inf32] at this
        omega
      simp only [h2, decide_false]
      decide +kernel
    · rw [widen_fin hf]
      have hl := wr_lt hf
      show (FloatKind.f64.format.order (rg .f64 (FloatKind.f64.format.word _ _)) _ == some .lt) = _
      rw [rg_word .f64 _ (by rw [inf64]; omega), lt_rung (by rw [inf64]; omega) (by rw [inf64]; omega)]
      exact decide_eq_decide.2 (wr_sub hf)
  · have h1 : isN .f64 (rg .f64 (cv .f32 .f64 x w)) = true := by
      have h2 := isN_widen x w
      rw [hn, isN_iff] at h2
      rw [isN_iff]
      unfold rg
      rw [Nat.mod_mod]
      exact h2
    rw [← order_cn, cn_of_nan h1]
    have h2 : ¬ rg .f32 x < 8388608 := by
      rw [isN_iff, inf32] at hn
      have := of_decide_eq_true hn
      unfold rg
      omega
    simp only [h2, decide_false]
    decide +kernel
end Go.Proofs.Ytokbpcfgeklliaa
