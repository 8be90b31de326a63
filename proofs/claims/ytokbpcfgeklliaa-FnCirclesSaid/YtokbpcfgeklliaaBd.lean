/-
  Bounds by powers of two of 64-bit numbers, and when narrowing does not overflow. Plain facts on words; no function of the program.
-/
import Derived.Test.YtokbpcfgeklliaaOrd
namespace Go.Proofs.Ytokbpcfgeklliaa
open Ieee

/-- The rung of 2 to the power of j. -/
def RP (j : Int) : Nat := (j + 1023).toNat * 4503599627370496
theorem RP_le {i j : Int} (h : i ≤ j) : RP i ≤ RP j := by
  unfold RP
  exact Nat.mul_le_mul_right _ (by omega)
theorem RP_inf {j : Int} (h : j ≤ 1023) : RP j < 9218868437227405312 := by
  unfold RP
  omega
theorem rv_RP {j : Int} (h0 : -1022 ≤ j) (_h1 : j ≤ 1023) : rv FloatKind.f64.format (RP j) = vl 1 j := by
  obtain ⟨a, ha⟩ : ∃ a : Nat, (j + 1023).toNat = a + 1 := ⟨(j + 1023).toNat - 1, by omega⟩
  have h2 : ¬ (a + 1) * 4503599627370496 < 4503599627370496 := by omega
  have hm : mg FloatKind.f64.format (RP j) = 4503599627370496 := by
    unfold mg RP
    rw [ha, bin64, if_neg h2]
    omega
  have hp : pl FloatKind.f64.format (RP j) = j - 52 := by
    unfold pl RP
    rw [ha, bin64, if_neg h2, lp64]
    have : (a + 1) * 4503599627370496 / 4503599627370496 = a + 1 := Nat.mul_div_cancel _ (by omega)
    rw [this]
    omega
  unfold rv
  rw [hm, hp, show (4503599627370496 : Nat) = 2 ^ 52 from rfl, vl_pow]
  congr 1
  omega
theorem nr_le_p2 {m : Nat} {e j : Int} (h0 : -1022 ≤ j) (h1 : j ≤ 1023) (h : vl m e ≤ vl 1 j) : nr FloatKind.f64.format m e ≤ RP j :=
  nr_le_rung _ (by rw [rv_RP h0 h1]; exact h)
theorem nr_ge_p2 {m : Nat} {e j : Int} (h0 : -1022 ≤ j) (h1 : j ≤ 1023) (h : vl 1 j ≤ vl m e) : RP j ≤ nr FloatKind.f64.format m e :=
  nr_ge_rung _ (by rw [inf64]; exact Nat.le_of_lt (RP_inf h1)) (by rw [rv_RP h0 h1]; exact h)
/-- A finite number of absolute value at most 2 to the power of j. -/
def Bd (b : Nat) (j : Int) : Prop := rg .f64 b ≤ RP j
theorem Bd.fin {b : Nat} {j : Int} (h : Bd b j) (hj : j ≤ 1023) : fin .f64 b = true := by
  unfold Go.Proofs.Ytokbpcfgeklliaa.fin
  rw [inf64]
  exact decide_eq_true (Nat.lt_of_le_of_lt h (RP_inf hj))
theorem Bd.mono {b : Nat} {i j : Int} (h : Bd b i) (hij : i ≤ j) : Bd b j := Nat.le_trans h (RP_le hij)
theorem Bd.val {b : Nat} {j : Int} (h : Bd b j) (h0 : -1022 ≤ j) (h1 : j ≤ 1023) : vl (mg FloatKind.f64.format (rg .f64 b)) (pl FloatKind.f64.format (rg .f64 b)) ≤ vl 1 j := by
  rw [← rv_RP h0 h1]
  exact rv_le _ (by rw [inf64]; exact Nat.le_of_lt (RP_inf h1)) h
theorem Bd_cn {b : Nat} {j : Int} (hj : j ≤ 1023) : Bd (cn .f64 b) j ↔ Bd b j := by
  cases hn : isN .f64 b
  · rw [cn_of_not hn]
  · rw [cn_of_nan hn]
    constructor
    · intro h
      have := isN_of_fin (h.fin hj)
      rw [isN_qn] at this
      cases this
    · intro h
      have := isN_of_fin (h.fin hj)
      rw [hn] at this
      cases this

/-- No overflow below 2 to the power of 127. -/
theorem narrow_some {b : Nat} (h : Bd b 127) : (floatToFloatBits .f64 b .f32).isSome = true := by
  have hf := h.fin (by omega)
  have hr : FloatKind.f64.decode b = _ := read_fin hf
  have hv := h.val (by omega) (by omega)
  have h1 := nr_le FloatKind.f32.format (m := mg FloatKind.f64.format (rg .f64 b)) (e := pl FloatKind.f64.format (rg .f64 b)) (c := 8388608) (g := 104) (by rw [lp32]; omega) (by rw [bin32]; omega) (.inl (by rw [bin32]; omega))
    (by rw [show (8388608 : Nat) = 2 ^ 23 from rfl, vl_pow]; exact hv)
  rw [lp32, bin32] at h1
  have hl : nr FloatKind.f32.format (mg FloatKind.f64.format (rg .f64 b)) (pl FloatKind.f64.format (rg .f64 b)) < 2139095040 := Nat.lt_of_le_of_lt h1 (by decide +kernel)
  have hw : FloatKind.f32.encode (.number (sg .f64 b) (mg FloatKind.f64.format (rg .f64 b)) (pl FloatKind.f64.format (rg .f64 b))) = FloatKind.f32.format.word (sg .f64 b) (nr FloatKind.f32.format (mg FloatKind.f64.format (rg .f64 b)) (pl FloatKind.f64.format (rg .f64 b))) := nearest_eq _ _ _ _
  have hle : nr FloatKind.f32.format (mg FloatKind.f64.format (rg .f64 b)) (pl FloatKind.f64.format (rg .f64 b)) ≤ FloatKind.f32.format.infRung := by rw [inf32]; exact Nat.le_of_lt hl
  have hf2 : Go.Proofs.Ytokbpcfgeklliaa.fin .f32 (FloatKind.f32.format.word (sg .f64 b) (nr FloatKind.f32.format (mg FloatKind.f64.format (rg .f64 b)) (pl FloatKind.f64.format (rg .f64 b)))) = true := by
    unfold Go.Proofs.Ytokbpcfgeklliaa.fin
    rw [rg_word .f32 _ hle, inf32]
    exact decide_eq_true hl
  have hd : FloatKind.f32.decode (FloatKind.f32.format.word (sg .f64 b) (nr FloatKind.f32.format (mg FloatKind.f64.format (rg .f64 b)) (pl FloatKind.f64.format (rg .f64 b)))) = _ := read_fin hf2
  unfold floatToFloatBits
  rw [if_neg (by decide), hr]
  simp only []
  rw [hw, hd]
  rfl
theorem narrow_inf {b : Nat} (hn : isN .f64 b = false) (hf : fin .f64 b = false) : (floatToFloatBits .f64 b .f32).isSome = true := by
  have hr : FloatKind.f64.decode b = _ := (read_inf hn hf).1
  unfold floatToFloatBits
  rw [if_neg (by decide), hr]
  rfl

/-! ### The square root -/
def sqv (x : Nat) (w : World) : Nat := (FloatKind.f64.format.sqrt x).getD (Question.cut (.nanBits .f64 x x) (w.tape w.drawn (.nanBits .f64 x x)))
def sqd (x : Nat) : Nat := if (FloatKind.f64.format.sqrt x).isSome then 0 else 1
def sqo (x : Nat) : Nat := (FloatKind.f64.format.sqrt x).getD (qn .f64)
theorem run_sqrt {P : Program} (x : Nat) (w : World) : (Extern.MathSqrt.sqrt #[.float .f64 x]).run P w = .ok (.float .f64 (sqv x w)) (w.drewN (sqd x)) := by
  change Sem.run P (match FloatKind.f64.format.sqrt x with
    | some r => pure (Value.float .f64 r)
    | none => do pure (Value.float .f64 (← choose (.nanBits .f64 x x)))) w = _
  cases h : FloatKind.f64.format.sqrt x with
  | some r => simp [sqv, sqd, h, World.drewN_zero]
  | none => simp [sqv, sqd, h, Question.forced, World.drew_is_drewN]
theorem root_notNaN {n : Nat} {a d : Datum} (h : a.root n = some d) : d.isNaN = false := by
  cases a <;> simp only [Datum.root] at h
  · split at h
    · cases h; rfl
    · split at h
      · cases h
      · cases h; rfl
  · split at h
    · cases h
    · cases h; rfl
  · cases h
theorem sqrt_notNaN {x r : Nat} (h : FloatKind.f64.format.sqrt x = some r) : isN .f64 r = false := by
  simp only [Format.sqrt, Option.map_eq_some_iff] at h
  obtain ⟨d, hd, rfl⟩ := h
  exact write_notNaN _ (root_notNaN hd)
theorem sqrt_nan {x : Nat} (h : isN .f64 x = true) : FloatKind.f64.format.sqrt x = none := by
  unfold isN at h
  unfold Format.sqrt
  cases hx : FloatKind.f64.format.read x with
  | number s m e => rw [hx] at h; simp [Datum.isNaN] at h
  | infinity s => rw [hx] at h; simp [Datum.isNaN] at h
  | nan s t => rfl
theorem cn_sqv (x : Nat) (w : World) : cn .f64 (sqv x w) = sqo (cn .f64 x) := by
  unfold sqv sqo
  cases hn : isN .f64 x
  · rw [cn_of_not hn]
    cases h : FloatKind.f64.format.sqrt x with
    | some r => exact cn_of_not (sqrt_notNaN h)
    | none => exact cn_of_nan (isN_cut .f64 x x _)
  · rw [cn_of_nan hn, sqrt_nan hn, sqrt_nan (isN_qn .f64)]
    exact cn_of_nan (isN_cut .f64 x x _)
theorem rootFrom_lt (n : Nat) : ∀ (t r : Nat), Datum.rootFrom n t r < r + 2 ^ t
  | 0, r => by simp [Datum.rootFrom]
  | t + 1, r => by
    have h1 := rootFrom_lt n t
    unfold Datum.rootFrom
    simp only [Nat.shiftLeft_eq, Nat.one_mul, Nat.pow_succ]
    split
    · have := h1 (r + 2 ^ t); omega
    · have := h1 r; omega
theorem log2_shift {m : Nat} (hm : m ≠ 0) (k : Nat) : (m <<< k).log2 = m.log2 + k := by
  have h0 : m <<< k ≠ 0 := by
    rw [Nat.shiftLeft_eq]
    have := Nat.mul_pos (Nat.pos_of_ne_zero hm) (Nat.two_pow_pos k)
    omega
  rw [Nat.log2_eq_iff h0, Nat.shiftLeft_eq, Nat.pow_add, show m.log2 + k + 1 = (m.log2 + 1) + k by omega, Nat.pow_add]
  exact ⟨Nat.mul_le_mul_right _ (Nat.log2_self_le hm), Nat.mul_lt_mul_of_pos_right Nat.lt_log2_self (Nat.two_pow_pos k)⟩
/-- The root of what is at most 2 to the power of t is at most 2 to that of t / 2 + 1. -/
theorem root_le {D : Nat} {s : Bool} {m : Nat} {i t : Int} {d : Datum} (h : (Datum.number s m i).root D = some d) (hv : vl m i ≤ vl 1 t) :
    ∃ s' m' e', d = .number s' m' e' ∧ vl m' e' ≤ vl 1 (t / 2 + 1) ∨ m = 0 ∧ d = .number s m i := by
  simp only [Datum.root] at h
  split at h
  · rename_i hm
    cases h
    exact ⟨s, m, i, .inr ⟨hm, rfl⟩⟩
  · rename_i hm
    split at h
    · cases h
    · cases h
      refine ⟨_, _, _, .inl ⟨rfl, ?_⟩⟩
      obtain ⟨k, hk⟩ : ∃ k, k = 2 * D - m.log2 + ((i - ((2 * D - m.log2 : Nat) : Int)) % 2).toNat := ⟨_, rfl⟩
      rw [← hk]
      have heven : (i - (k : Int)) % 2 = 0 := by
        rw [hk]
        omega
      have hlog : m.log2 + i ≤ t := by
        have := rle_trans (log_le hm i) hv
        have := vl1_le.1 this
        omega
      have hl := log2_shift hm k
      have h1 := rootFrom_lt (m <<< k) ((m <<< k).log2 / 2 + 1) 0
      generalize Datum.rootFrom (m <<< k) ((m <<< k).log2 / 2 + 1) 0 = q at *
      rw [hl] at h1
      have hb := Bool.toNat_le (q * q != m <<< k)
      have h2 : 2 * q + (q * q != m <<< k).toNat ≤ 2 ^ ((m.log2 + k) / 2 + 2) := by
        rw [show (m.log2 + k) / 2 + 2 = ((m.log2 + k) / 2 + 1) + 1 by omega, Nat.pow_succ]
        omega
      refine rle_trans (vl_le_same.2 h2) ?_
      rw [vl_pow]
      exact vl1_le.2 (by omega)
theorem sqrt_le {x r : Nat} {t : Int} (hf : fin .f64 x = true) (hv : vl (mg FloatKind.f64.format (rg .f64 x)) (pl FloatKind.f64.format (rg .f64 x)) ≤ vl 1 t) (h0 : -1024 ≤ t) (h1 : t ≤ 1023)
    (h : FloatKind.f64.format.sqrt x = some r) : Bd r (t / 2 + 1) := by
  simp only [Format.sqrt, read_fin hf, Option.map_eq_some_iff] at h
  obtain ⟨d, hd, rfl⟩ := h
  obtain ⟨s', m', e', hh | ⟨hm, hh⟩⟩ := root_le hd hv
  · obtain ⟨rfl, hle⟩ := hh
    show rg .f64 (FloatKind.f64.format.nearest s' m' e') ≤ _
    rw [nearest_eq, rg_word .f64 _ (nr_inf _ _ _)]
    exact nr_le_p2 (by omega) (by omega) hle
  · rw [hh, hm]
    show rg .f64 (FloatKind.f64.format.nearest _ 0 _) ≤ _
    rw [nearest_eq, rg_word .f64 _ (nr_inf _ _ _)]
    exact Nat.zero_le _
/-- Of a 32-bit number, as a 64-bit one, the root, narrowed, does not overflow. -/
theorem Bd_widen {x : Nat} (hf : fin .f32 x = true) (W : World) : Bd (cv .f32 .f64 x W) 128 := by
  unfold Bd
  unfold cv
  rw [widen_fin hf]
  have hl := wr_lt hf
  show rg .f64 (FloatKind.f64.format.word _ _) ≤ _
  rw [rg_word .f64 _ (by rw [inf64]; omega)]
  exact hl
theorem narrow_root {x : Nat} (W W' : World) : isN .f64 (sqv (cv .f32 .f64 x W) W') = true ∨ (floatToFloatBits .f64 (sqv (cv .f32 .f64 x W) W') .f32).isSome = true := by
  cases hN : isN .f64 (sqv (cv .f32 .f64 x W) W')
  · refine .inr ?_
    cases hF : fin .f64 (sqv (cv .f32 .f64 x W) W')
    · exact narrow_inf hN hF
    · refine narrow_some ?_
      cases hs : FloatKind.f64.format.sqrt (cv .f32 .f64 x W) with
      | none =>
        have : sqv (cv .f32 .f64 x W) W' = Question.cut (.nanBits .f64 (cv .f32 .f64 x W) (cv .f32 .f64 x W)) (W'.tape W'.drawn (.nanBits .f64 (cv .f32 .f64 x W) (cv .f32 .f64 x W))) := by
          unfold sqv; rw [hs]; rfl
        rw [this, isN_cut] at hN
        cases hN
      | some r =>
        have hr : sqv (cv .f32 .f64 x W) W' = r := by unfold sqv; rw [hs]; rfl
        rw [hr] at hF hN ⊢
        cases hf : fin .f32 x
        · exfalso
          have hf' : fin .f64 (cv .f32 .f64 x W) = false := by rw [fin_widen, hf]
          cases hn : isN .f64 (cv .f32 .f64 x W)
          · have hri := read_inf hn hf'
            simp only [Format.sqrt, hri.1, Datum.root, Option.map_eq_some_iff] at hs
            obtain ⟨d, hd, rfl⟩ := hs
            split at hd
            · cases hd
            · cases hd
              have : rg .f64 (FloatKind.f64.format.write (.infinity (sg .f64 (cv .f32 .f64 x W)))) = FloatKind.f64.format.infRung := rg_word .f64 _ (Nat.le_refl _)
              unfold Go.Proofs.Ytokbpcfgeklliaa.fin at hF
              rw [this] at hF
              simp at hF
          · rw [sqrt_nan hn] at hs; cases hs
        · have hb := Bd_widen hf W
          have := sqrt_le (by rw [fin_widen, hf]) (hb.val (by omega) (by omega)) (by omega) (by omega) hs
          exact this.mono (by omega)
  · exact .inl rfl
end Go.Proofs.Ytokbpcfgeklliaa
