/-
  Finite words; a 32-bit number as a 64-bit one; a number less itself. Plain facts on words; no function of the program.
-/
import Derived.Test.YtokbpcfgeklliaaRnd
namespace Go.Proofs.Ytokbpcfgeklliaa
open Ieee

/-- A word without its sign. -/
def rg (k : FloatKind) (b : Nat) : Nat := b % k.format.signWeight
def sg (k : FloatKind) (b : Nat) : Bool := b / k.format.signWeight % 2 == 1
/-- A word of a finite number. -/
def fin (k : FloatKind) (b : Nat) : Bool := decide (rg k b < k.format.infRung)
theorem read_fin {k : FloatKind} {b : Nat} (h : fin k b = true) : k.format.read b = .number (sg k b) (mg k.format (rg k b)) (pl k.format (rg k b)) := by
  rw [read_eq]
  exact rd_fin _ _ (of_decide_eq_true h)
theorem isN_of_fin {k : FloatKind} {b : Nat} (h : fin k b = true) : isN k b = false := by
  unfold isN; rw [read_fin h]; rfl
theorem fin_of_isN {k : FloatKind} {b : Nat} (h : isN k b = true) : fin k b = false := by
  cases hf : fin k b
  · rfl
  · rw [isN_of_fin hf] at h; cases h
theorem read_inf {k : FloatKind} {b : Nat} (hn : isN k b = false) (h : fin k b = false) : k.format.read b = .infinity (sg k b) ∧ rg k b = k.format.infRung := by
  rw [isN_iff] at hn
  have h1 := of_decide_eq_false hn
  have h2 := of_decide_eq_false h
  have h3 : b % k.format.signWeight = k.format.infRung := by unfold rg at h2; omega
  have h4 : k.format.binade ≤ k.format.infRung := by cases k <;> decide +kernel
  refine ⟨?_, h3⟩
  rw [read_eq, h3]
  unfold rd
  rw [if_neg (by omega), if_neg (by omega), if_pos rfl]
  rfl
theorem rg_word (k : FloatKind) (s : Bool) {r : Nat} (h : r ≤ k.format.infRung) : rg k (k.format.word s r) = r :=
  word_mod _ s (Nat.lt_of_le_of_lt h k.format.infRung_lt)
theorem sg_word (k : FloatKind) (s : Bool) {r : Nat} (h : r ≤ k.format.infRung) : sg k (k.format.word s r) = s :=
  word_neg _ s (Nat.lt_of_le_of_lt h k.format.infRung_lt)
theorem fin_cn (k : FloatKind) (b : Nat) : fin k (cn k b) = fin k b := by
  cases h : isN k b
  · rw [cn_of_not h]
  · rw [cn_of_nan h, fin_of_isN h, fin_of_isN (isN_qn k)]

theorem sw32 : FloatKind.f32.format.signWeight = 2147483648 := by decide +kernel
theorem sw64 : FloatKind.f64.format.signWeight = 9223372036854775808 := by decide +kernel
theorem inf32 : FloatKind.f32.format.infRung = 2139095040 := by decide +kernel
theorem inf64 : FloatKind.f64.format.infRung = 9218868437227405312 := by decide +kernel
theorem bin32 : FloatKind.f32.format.binade = 8388608 := by decide +kernel
theorem bin64 : FloatKind.f64.format.binade = 4503599627370496 := by decide +kernel
theorem lp32 : FloatKind.f32.format.leastPlace = -149 := by decide +kernel
theorem lp64 : FloatKind.f64.format.leastPlace = -1074 := by decide +kernel

/-- What a number of 32 bits is as one of 64: the rung. -/
def wr (b : Nat) : Nat := nr FloatKind.f64.format (mg FloatKind.f32.format (rg .f32 b)) (pl FloatKind.f32.format (rg .f32 b))
theorem vl_rung {k : FloatKind} {r m : Nat} {e : Int} (h1 : mg k.format r = m) (h2 : pl k.format r = e) : rv k.format r = vl m e := by
  unfold rv; rw [h1, h2]
theorem wr_lt {b : Nat} (h : fin .f32 b = true) : wr b ≤ 1151 * 4503599627370496 := by
  have h0 : rg .f32 b < 2139095040 := by have := of_decide_eq_true h; rwa [inf32] at this
  have h1 : rv FloatKind.f32.format (rg .f32 b) ≤ rv FloatKind.f32.format 2139095039 := rv_le _ (by rw [inf32]; omega) (by omega)
  have h2 : rv FloatKind.f32.format 2139095039 = vl 16777215 104 := vl_rung (by decide +kernel) (by decide +kernel)
  have h3 : vl 16777215 104 ≤ vl 9007199254740992 75 := by
    rw [vl_to 16777215 (show (75 : Int) ≤ 104 by omega)]
    exact vl_le_same.2 (by decide +kernel)
  have := nr_le FloatKind.f64.format (m := mg FloatKind.f32.format (rg .f32 b)) (e := pl FloatKind.f32.format (rg .f32 b)) (c := 9007199254740992) (g := 75) (by rw [lp64]; omega) (by rw [bin64]; omega) (.inl (by rw [bin64]; omega))
    (rle_trans h1 (by rw [h2]; exact h3))
  rw [lp64, bin64] at this
  exact Nat.le_trans this (by decide +kernel)
theorem widen_fin {b : Nat} (h : fin .f32 b = true) : floatToFloatBits .f32 b .f64 = some (FloatKind.f64.format.word (sg .f32 b) (wr b)) := by
  have hr : FloatKind.f32.decode b = _ := read_fin h
  have hl := wr_lt h
  have hw : FloatKind.f64.encode (.number (sg .f32 b) (mg FloatKind.f32.format (rg .f32 b)) (pl FloatKind.f32.format (rg .f32 b))) = FloatKind.f64.format.word (sg .f32 b) (wr b) := nearest_eq _ _ _ _
  have hle : wr b ≤ FloatKind.f64.format.infRung := by rw [inf64]; omega
  have hf : fin .f64 (FloatKind.f64.format.word (sg .f32 b) (wr b)) = true := by
    unfold fin
    rw [rg_word .f64 _ hle, inf64]
    exact decide_eq_true (by omega)
  have hd : FloatKind.f64.decode (FloatKind.f64.format.word (sg .f32 b) (wr b)) = _ := read_fin hf
  unfold floatToFloatBits
  rw [if_neg (by decide), hr]
  simp only []
  rw [hw, hd]
  rfl
theorem widen_inf {b : Nat} (hn : isN .f32 b = false) (h : fin .f32 b = false) : floatToFloatBits .f32 b .f64 = some (FloatKind.f64.format.word (sg .f32 b) FloatKind.f64.format.infRung) := by
  have hr : FloatKind.f32.decode b = _ := (read_inf hn h).1
  unfold floatToFloatBits
  rw [if_neg (by decide), hr]
  rfl
theorem widen_nan {s k : FloatKind} (hk : s ≠ k) {b : Nat} (hn : isN s b = true) : floatToFloatBits s b k = none := by
  unfold isN at hn
  unfold floatToFloatBits
  rw [if_neg hk]
  show (match s.format.read b with | .nan _ _ => none | .infinity s => some (k.encode (.infinity s)) | .number s m e => if (k.decode (k.encode (.number s m e))).isInfinity then none else some (k.encode (.number s m e))) = none
  cases h : s.format.read b with
  | number s m e => rw [h] at hn; simp [Datum.isNaN] at hn
  | infinity s => rw [h] at hn; simp [Datum.isNaN] at hn
  | nan s t => rfl
theorem isN_widen (b : Nat) (w : World) : isN .f64 (cv .f32 .f64 b w) = isN .f32 b := by
  unfold cv
  cases hn : isN .f32 b
  · cases hf : fin .f32 b
    · rw [widen_inf hn hf]
      show isN .f64 (FloatKind.f64.format.word _ _) = false
      rw [isN_iff, ← rg, rg_word .f64 _ (Nat.le_refl _)]
      exact decide_eq_false (by omega)
    · rw [widen_fin hf]
      have hl := wr_lt hf
      show isN .f64 (FloatKind.f64.format.word _ _) = false
      rw [isN_iff, ← rg, rg_word .f64 _ (by rw [inf64]; omega), inf64]
      exact decide_eq_false (by omega)
  · rw [widen_nan (by decide) hn]
    exact isN_cutConv .f64 b _
theorem fin_widen (b : Nat) (w : World) : fin .f64 (cv .f32 .f64 b w) = fin .f32 b := by
  cases hn : isN .f32 b
  · unfold cv
    cases hf : fin .f32 b
    · rw [widen_inf hn hf]
      show fin .f64 (FloatKind.f64.format.word _ _) = false
      unfold fin
      rw [rg_word .f64 _ (Nat.le_refl _)]
      exact decide_eq_false (by omega)
    · rw [widen_fin hf]
      have hl := wr_lt hf
      show fin .f64 (FloatKind.f64.format.word _ _) = true
      unfold fin
      rw [rg_word .f64 _ (by rw [inf64]; omega), inf64]
      exact decide_eq_true (by omega)
  · rw [fin_of_isN hn]
    exact fin_of_isN (by rw [isN_widen, hn])

theorem write_inf_notNaN (k : FloatKind) (s : Bool) : isN k (k.encode (.infinity s)) = false := write_notNaN k.format (d := .infinity s) rfl
theorem conv_notNaN {s k : FloatKind} {b r : Nat} (hb : isN s b = false) (h : floatToFloatBits s b k = some r) : isN k r = false := by
  unfold floatToFloatBits at h
  split at h
  · rename_i e; subst e; cases h; exact hb
  · split at h
    · cases h
    · cases h; exact write_inf_notNaN ..
    · split at h
      · cases h
      · cases h; exact write_notNaN k.format (d := .number _ _ _) rfl
/-- THE LAW for a conversion that does not overflow. -/
theorem cn_cv {s k : FloatKind} (hk : s ≠ k) {b : Nat} (w : World) (h : isN s b = true ∨ (floatToFloatBits s b k).isSome = true) : cn k (cv s k b w) = co s k (cn s b) := by
  cases hn : isN s b
  · obtain ⟨r, hr⟩ := Option.isSome_iff_exists.1 (h.resolve_left (by simp [hn]))
    rw [cn_of_not hn]
    unfold cv co
    rw [hr]
    exact cn_of_not (conv_notNaN hn hr)
  · rw [cn_of_nan hn]
    unfold cv co
    rw [widen_nan hk hn, widen_nan hk (isN_qn s), hn]
    exact cn_of_nan (isN_cutConv k b _)
theorem cn_widen (b : Nat) (w : World) : cn .f64 (cv .f32 .f64 b w) = co .f32 .f64 (cn .f32 b) := by
  refine cn_cv (by decide) w ?_
  cases hn : isN .f32 b
  · refine .inr ?_
    cases hf : fin .f32 b
    · rw [widen_inf hn hf]; rfl
    · rw [widen_fin hf]; rfl
  · exact .inl rfl

/-! ### A number less itself -/
theorem order_zero (k : FloatKind) (s : Bool) (b : Nat) (hb : k.format.read b = .number s 0 k.format.leastPlace) : k.format.order b 0 = some .eq := by
  have h0 : k.format.read 0 = .number false 0 k.format.leastPlace := by cases k <;> decide +kernel
  unfold Format.order
  rw [hb, h0]
  cases s <;> simp [Datum.order, signed]
theorem sub_self (k : FloatKind) (x : Nat) (w : World) : (k.format.order (fv .sub k x x w) 0 == some .eq) = fin k x := by
  have none_case : isN k (fv .sub k x x w) = true → (k.format.order (fv .sub k x x w) 0 == some .eq) = false := by
    intro h
    rw [← order_cn, cn_of_nan h]
    cases k <;> decide +kernel
  have hb : isN k (fv .sub k x x w) = true ↔ floatBits .sub k x x = none := by
    cases h : floatBits .sub k x x with
    | none => simp [fv, h, isN_cut]
    | some r => simp [fv, h, floatBits_notNaN h]
  cases hn : isN k x
  · cases hf : fin k x
    · refine none_case (hb.2 ?_)
      simp [floatBits, Format.sub, (read_inf hn hf).1, Datum.sum, Datum.opposite]
    · have hr := read_fin hf
      have hv : floatBits .sub k x x = some (k.format.word (sg k x && !sg k x) 0) := by
        simp only [floatBits, Format.sub, hr, Datum.opposite, Datum.sum]
        have : ∀ (s : Bool) (m : Nat), signed s m 0 + signed (!s) m 0 = 0 := by
          intro s m
          cases s <;> simp [signed] <;> omega
        simp only [Int.min_self, Int.sub_self, Int.toNat_zero, this, if_true, Option.map]
        show some (k.format.nearest _ _ _) = _
        rw [nearest_eq]
        rfl
      unfold fv
      rw [hv]
      simp only [Option.getD]
      rw [order_zero k (sg k x && !sg k x) _ ?_]
      · rfl
      · rw [read_word _ _ (Nat.two_pow_pos _)]
        unfold rd
        rw [if_pos (binade_pos _)]
  · rw [fin_of_isN hn]
    refine none_case (hb.2 ?_)
    rw [← fb_cn, cn_of_nan hn]
    cases k <;> decide +kernel
end Go.Proofs.Ytokbpcfgeklliaa
