/-
  What the four operations give of finite words: the exact value, rounded; bounds by powers of two. Plain facts on words; no function of the program.
-/
import Derived.Test.YtokbpcfgeklliaaBd
namespace Go.Proofs.Ytokbpcfgeklliaa
open Ieee

theorem sv_of_signed (s : Bool) (m : Nat) (e : Int) (z : Int) (hs : s = decide (z < 0)) (hm : m = z.natAbs) : sv s m e = ((z : Int) : Rat) * (2 : Rat) ^ e := by
  subst hs hm
  unfold sv vl
  by_cases h : z < 0
  · simp only [h, decide_true, if_true]
    have h1 : (z.natAbs : Int) = -z := by omega
    rw [← Rat.intCast_natCast, h1, Rat.intCast_neg, Rat.neg_mul, Rat.neg_neg]
  · simp only [h, decide_false, Bool.false_eq_true, if_false]
    have h1 : (z.natAbs : Int) = z := by omega
    rw [← Rat.intCast_natCast, h1]
theorem sv_zero (s : Bool) (e : Int) : sv s 0 e = 0 := by
  unfold sv vl
  cases s <;> simp
theorem rcast_add (a b : Int) (c : Rat) : ((a + b : Int) : Rat) * c = (a : Rat) * c + (b : Rat) * c := by
  rw [Rat.intCast_add, Rat.add_mul]
/-- A sum of two numbers: its value is the sum of theirs. -/
theorem sum_val (s t : Bool) (m n : Nat) (i j : Int) : ∃ s' m' e', (Datum.number s m i).sum (.number t n j) = some (.number s' m' e') ∧ sv s' m' e' = sv s m i + sv t n j := by
  have h1 := signed_at s m (Int.min_le_left i j)
  have h2 := signed_at t n (Int.min_le_right i j)
  refine ⟨_, _, _, rfl, ?_⟩
  rw [h1, h2, ← rcast_add]
  by_cases h0 : signed s m (i - min i j).toNat + signed t n (j - min i j).toNat = 0
  · rw [h0]
    simp only [Int.natAbs_zero]
    rw [sv_zero]
    simp
  · rw [if_neg h0]
    exact sv_of_signed _ _ _ _ rfl rfl
theorem sv_opp (s : Bool) (m : Nat) (e : Int) : sv (!s) m e = - sv s m e := by
  unfold sv
  cases s <;> simp
theorem vl_mul (m n : Nat) (i j : Int) : vl (m * n) (i + j) = vl m i * vl n j := by
  unfold vl
  rw [Rat.natCast_mul, p2_add]
  grind
theorem sv_mul (s t : Bool) (m n : Nat) (i j : Int) : sv (s ^^ t) (m * n) (i + j) = sv s m i * sv t n j := by
  unfold sv
  rw [vl_mul]
  cases s <;> cases t <;> simp <;> grind
section
variable {k : FloatKind} {x y : Nat}
theorem add_spec (hx : fin k x = true) (hy : fin k y = true) : ∃ s m e, floatBits .add k x y = some (k.format.word s (nr k.format m e)) ∧ sv s m e = wv k x + wv k y := by
  obtain ⟨s, m, e, h1, h2⟩ := sum_val (sg k x) (sg k y) (mg k.format (rg k x)) (mg k.format (rg k y)) (pl k.format (rg k x)) (pl k.format (rg k y))
  refine ⟨s, m, e, ?_, h2⟩
  simp only [floatBits, Format.add, read_fin hx, read_fin hy, h1, Option.map]
  exact congrArg some (nearest_eq _ _ _ _)
theorem sub_spec (hx : fin k x = true) (hy : fin k y = true) : ∃ s m e, floatBits .sub k x y = some (k.format.word s (nr k.format m e)) ∧ sv s m e = wv k x - wv k y := by
  obtain ⟨s, m, e, h1, h2⟩ := sum_val (sg k x) (!sg k y) (mg k.format (rg k x)) (mg k.format (rg k y)) (pl k.format (rg k x)) (pl k.format (rg k y))
  refine ⟨s, m, e, ?_, ?_⟩
  · simp only [floatBits, Format.sub, read_fin hx, read_fin hy, Datum.opposite, h1, Option.map]
    exact congrArg some (nearest_eq _ _ _ _)
  · rw [h2, sv_opp, Rat.sub_eq_add_neg]
    rfl
theorem mul_spec (hx : fin k x = true) (hy : fin k y = true) : ∃ m e, floatBits .mul k x y = some (k.format.word (sg k x ^^ sg k y) (nr k.format m e)) ∧ sv (sg k x ^^ sg k y) m e = wv k x * wv k y ∧ vl m e = rv k.format (rg k x) * rv k.format (rg k y) := by
  refine ⟨_, _, ?_, sv_mul (sg k x) (sg k y) (mg k.format (rg k x)) (mg k.format (rg k y)) (pl k.format (rg k x)) (pl k.format (rg k y)), vl_mul _ _ _ _⟩
  simp only [floatBits, Format.mul, read_fin hx, read_fin hy, Datum.product, Option.map]
  exact congrArg some (nearest_eq _ _ _ _)
end

/-- The quotient's datum is at most 2 to the power of c where the dividend is at most that times the divisor. -/
theorem quot_le {D : Nat} {s t : Bool} {m n : Nat} {i j c : Int} (hn : n ≠ 0) (h : vl m i ≤ vl n (j + c)) :
    ∃ m' e', (Datum.number s m i).quotient D (.number t n j) = some (.number (s ^^ t) m' e') ∧ vl m' e' ≤ vl 1 c := by
  refine ⟨2 * ((m <<< (D + n.log2 - m.log2)) / n) + ((m <<< (D + n.log2 - m.log2)) % n != 0).toNat, i - j - ((D + n.log2 - m.log2 : Nat) : Int) - 1, by simp only [Datum.quotient, if_neg hn], ?_⟩
  by_cases hm : m = 0
  · subst hm
    simp only [Nat.zero_shiftLeft, Nat.zero_div, Nat.zero_mod, bne_self_eq_false, Bool.toNat_false, Nat.mul_zero, Nat.add_zero]
    have hz : ∀ e, vl 0 e = 0 := by intro e; simp [vl]
    rw [hz]
    exact vl_nonneg _ _
  · obtain ⟨mo, hmo⟩ : ∃ mo, mo = D + n.log2 - m.log2 := ⟨_, rfl⟩
    rw [← hmo]
    have h1 : m.log2 + i < n.log2 + 1 + j + c := by
      have a := log_le hm i
      have b := lt_log n (j + c)
      have := vl1_lt.1 (rlt_of_le_of_lt (rle_trans a h) b)
      omega
    have hE : 0 ≤ c + j - i + mo := by omega
    obtain ⟨E, hE'⟩ := Int.eq_ofNat_of_zero_le hE
    have h2 : m * 2 ^ mo ≤ n * 2 ^ E := by
      have a : vl (m * 2 ^ mo) (i - mo) ≤ vl (n * 2 ^ E) (i - mo) := by
        rw [vl_shift]
        refine rle_trans h ?_
        rw [← vl_shift n (j + c) E]
        have : j + c - (E : Int) = i - mo := by omega
        rw [this]
        exact Rat.le_refl
      exact vl_le_same.1 a
    have h3 : 2 * ((m <<< mo) / n) + ((m <<< mo) % n != 0).toNat ≤ 2 ^ (E + 1) := by
      rw [Nat.shiftLeft_eq, Nat.pow_succ]
      have hd := Nat.div_add_mod (m * 2 ^ mo) n
      have hq : (m * 2 ^ mo) / n ≤ 2 ^ E := Nat.div_le_of_le_mul h2
      by_cases he : (m * 2 ^ mo) / n = 2 ^ E
      · have : (m * 2 ^ mo) % n = 0 := by rw [he] at hd; omega
        rw [this, he]
        simp
        omega
      · have := Bool.toNat_le ((m * 2 ^ mo) % n != 0)
        omega
    refine rle_trans (vl_le_same.2 h3) ?_
    rw [vl_pow]
    exact vl1_le.2 (by omega)

/-! ### Bounds of 64-bit numbers -/
theorem sv_abs (s : Bool) (m : Nat) (e : Int) : vl m e = (if 0 ≤ sv s m e then sv s m e else - sv s m e) := by
  have h := vl_nonneg m e
  unfold sv
  cases s
  · simp [h]
  · simp only [if_true]
    split <;> grind
theorem wv_abs {b : Nat} {j : Int} (h : Bd b j) (h0 : -1022 ≤ j) (h1 : j ≤ 1023) : wv .f64 b ≤ vl 1 j ∧ - vl 1 j ≤ wv .f64 b := by
  have hv := h.val h0 h1
  have hp := rv_nonneg FloatKind.f64.format (rg .f64 b)
  have hv' : rv FloatKind.f64.format (rg .f64 b) ≤ vl 1 j := hv
  unfold wv
  split <;> constructor <;> grind
theorem vl1_pos (j : Int) : 0 < vl 1 j := by
  unfold vl
  have := p2_pos j
  have h1 : ((1 : Nat) : Rat) = 1 := by rfl
  rw [h1, Rat.one_mul]
  exact this
theorem vl1_double (j : Int) : vl 1 (j + 1) = vl 1 j + vl 1 j := by
  have h := vl_pow 1 j
  have h2 : vl (2 ^ 1) j = vl 1 j + vl 1 j := by
    unfold vl
    simp only [Nat.pow_one]
    grind
  rw [← h2, h]
  rfl
theorem Bd_word {s : Bool} {m : Nat} {e j : Int} (h0 : -1022 ≤ j) (h1 : j ≤ 1023) (h : vl m e ≤ vl 1 j) : Bd (FloatKind.f64.format.word s (nr FloatKind.f64.format m e)) j := by
  unfold Bd
  rw [rg_word .f64 _ (nr_inf _ _ _)]
  exact nr_le_p2 h0 h1 h
theorem fo_some {op : BinOp} {k : FloatKind} {x y r : Nat} (h : floatBits op k x y = some r) : fo op k x y = r := by unfold fo; rw [h]; rfl
theorem Bd_add {x y : Nat} {j : Int} (hx : Bd x j) (hy : Bd y j) (h0 : -1022 ≤ j) (h1 : j ≤ 1022) : Bd (fo .add .f64 x y) (j + 1) := by
  obtain ⟨s, m, e, h, hv⟩ := add_spec (hx.fin (by omega)) (hy.fin (by omega))
  rw [fo_some h]
  refine Bd_word (by omega) (by omega) ?_
  have a := wv_abs hx h0 (by omega)
  have b := wv_abs hy h0 (by omega)
  rw [sv_abs s, hv, vl1_double]
  split <;> grind
theorem Bd_sub {x y : Nat} {j : Int} (hx : Bd x j) (hy : Bd y j) (h0 : -1022 ≤ j) (h1 : j ≤ 1022) : Bd (fo .sub .f64 x y) (j + 1) := by
  obtain ⟨s, m, e, h, hv⟩ := sub_spec (hx.fin (by omega)) (hy.fin (by omega))
  rw [fo_some h]
  refine Bd_word (by omega) (by omega) ?_
  have a := wv_abs hx h0 (by omega)
  have b := wv_abs hy h0 (by omega)
  rw [sv_abs s, hv, vl1_double]
  split <;> grind
theorem vl1_mul (i j : Int) : vl 1 (i + j) = vl 1 i * vl 1 j := by
  have := vl_mul 1 1 i j
  rwa [Nat.mul_one] at this
theorem Bd_mul {x y : Nat} {i j : Int} (hx : Bd x i) (hy : Bd y j) (hi0 : -1022 ≤ i) (hi1 : i ≤ 1023) (hj0 : -1022 ≤ j) (hj1 : j ≤ 1023) (h0 : -1022 ≤ i + j) (h1 : i + j ≤ 1023) : Bd (fo .mul .f64 x y) (i + j) := by
  obtain ⟨m, e, h, _, hv⟩ := mul_spec (hx.fin (by omega)) (hy.fin (by omega))
  rw [fo_some h]
  refine Bd_word h0 h1 ?_
  have a : rv FloatKind.f64.format (rg .f64 x) ≤ vl 1 i := hx.val hi0 hi1
  have b : rv FloatKind.f64.format (rg .f64 y) ≤ vl 1 j := hy.val hj0 hj1
  rw [hv, vl1_mul]
  exact rle_trans (Rat.mul_le_mul_of_nonneg_right a (rv_nonneg _ _)) (Rat.mul_le_mul_of_nonneg_left b (Rat.le_of_lt (vl1_pos i)))
/-- A divisor that is not nought, and the dividend at most 2 to the power of c times it. -/
theorem Bd_div {x y : Nat} {c : Int} (hx : fin .f64 x = true) (hy : fin .f64 y = true) (hn : 0 < rg .f64 y) (h : rv FloatKind.f64.format (rg .f64 x) ≤ rv FloatKind.f64.format (rg .f64 y) * vl 1 c) (h0 : -1022 ≤ c) (h1 : c ≤ 1023) :
    ∃ r, floatBits .quo .f64 x y = some r ∧ Bd r c := by
  have hm : mg FloatKind.f64.format (rg .f64 y) ≠ 0 := by
    unfold mg
    have := binade_pos FloatKind.f64.format
    split <;> omega
  have hh : vl (mg FloatKind.f64.format (rg .f64 x)) (pl FloatKind.f64.format (rg .f64 x)) ≤ vl (mg FloatKind.f64.format (rg .f64 y)) (pl FloatKind.f64.format (rg .f64 y) + c) := by
    have := vl_mul (mg FloatKind.f64.format (rg .f64 y)) 1 (pl FloatKind.f64.format (rg .f64 y)) c
    rw [Nat.mul_one] at this
    rw [this]
    exact h
  obtain ⟨m', e', hq, hle⟩ := quot_le (D := FloatKind.f64.format.fractionBits + 2) (s := sg .f64 x) (t := sg .f64 y) hm hh
  refine ⟨_, ?_, Bd_word (s := sg .f64 x ^^ sg .f64 y) h0 h1 hle⟩
  simp only [floatBits, Format.div, read_fin hx, read_fin hy, hq, Option.map]
  exact congrArg some (nearest_eq _ _ _ _)
theorem Bd_quo {x y : Nat} {i j : Int} (hx : Bd x i) (hy : fin .f64 y = true) (hn : RP j ≤ rg .f64 y) (hi0 : -1022 ≤ i) (hi1 : i ≤ 1023) (hj0 : -1022 ≤ j) (hj1 : j ≤ 1023) (h0 : -1022 ≤ i - j) (h1 : i - j ≤ 1023) : Bd (fo .quo .f64 x y) (i - j) := by
  have hyl : rg .f64 y ≤ FloatKind.f64.format.infRung := Nat.le_of_lt (of_decide_eq_true hy)
  have a : rv FloatKind.f64.format (rg .f64 x) ≤ vl 1 i := hx.val hi0 hi1
  have b : vl 1 j ≤ rv FloatKind.f64.format (rg .f64 y) := by rw [← rv_RP hj0 hj1]; exact rv_le _ hyl hn
  have hpos : 0 < rg .f64 y := by
    have : 0 < RP j := by unfold RP; omega
    omega
  obtain ⟨r, h, hr⟩ := Bd_div (c := i - j) (hx.fin (by omega)) hy hpos (by
    refine rle_trans a ?_
    have e : vl 1 i = vl 1 j * vl 1 (i - j) := by rw [← vl1_mul]; congr 1; omega
    rw [e]
    exact Rat.mul_le_mul_of_nonneg_right b (Rat.le_of_lt (vl1_pos _))) h0 h1
  rw [fo_some h]
  exact hr
end Go.Proofs.Ytokbpcfgeklliaa
