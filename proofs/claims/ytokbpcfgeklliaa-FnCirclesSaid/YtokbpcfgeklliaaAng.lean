/-
  AngleTurns: what it reckons, and that it stays small.
-/
import Derived.Test.YtokbpcfgeklliaaSinL
namespace Go.Proofs.Ytokbpcfgeklliaa
open Go.RowKit
open Ieee
set_option linter.unusedVariables false

def K8 : Nat := 4620693217682128896
def denA (t : Nat) : Nat := fo .add .f64 K1 (sqo (fo .add .f64 K1 (fo .mul .f64 t t)))
def rndA (t : Nat) : Nat := fo .quo .f64 t (denA t)
def rndI : Nat → Nat → Nat
  | 0, t => t
  | n + 1, t => rndA (rndI n t)
def pA (u : Nat) : Nat → Nat
  | 0 => 0
  | j + 1 => fo .sub .f64 (fo .quo .f64 K1 (floatOfInt .f64 (15 - 2 * (j : Int)))) (fo .mul .f64 u (pA u j))
def angM (t : Nat) : Nat := fo .quo .f64 (fo .mul .f64 K8 (fo .mul .f64 t (pA (fo .mul .f64 t t) 8))) K2pi
def angO (o : Bool) (a : Nat) : Nat := if o then fo .sub .f64 K025 a else a
def angX (o : Bool) (a : Nat) : Nat := if o then fo .sub .f64 K05 a else a
def angY (o : Bool) (a : Nat) : Nat := if o then negC a else a

theorem K1_fin : fin .f64 K1 = true := by decide +kernel
theorem nonneg_sg {x : Nat} (h : rv FloatKind.f64.format K1 ≤ wv .f64 x) : sg .f64 x = false ∧ rv FloatKind.f64.format K1 ≤ rv FloatKind.f64.format (rg .f64 x) := by
  cases hs : sg .f64 x
  · refine ⟨rfl, ?_⟩
    unfold wv at h
    rw [hs] at h
    exact h
  · exfalso
    unfold wv at h
    rw [hs] at h
    rw [rv_one] at h
    have := rv_nonneg FloatKind.f64.format (rg .f64 x)
    simp only [if_true] at h
    grind
theorem one_more {m : Nat} (hf : fin .f64 m = true) (h : 0 ≤ wv .f64 m) : rv FloatKind.f64.format K1 ≤ wv .f64 (fo .add .f64 K1 m) := by
  obtain ⟨s, q, e, h1, h2⟩ := add_spec (k := .f64) K1_fin hf
  rw [fo_some h1]
  exact round_ge K1_inf (by rw [h2, wv_K1, rv_one]; grind)
theorem square_nonneg {t : Nat} (hf : fin .f64 t = true) : 0 ≤ wv .f64 (fo .mul .f64 t t) := by
  obtain ⟨q, e, h1, h2, _⟩ := mul_spec (k := .f64) hf hf
  rw [fo_some h1]
  have hx : (sg .f64 t ^^ sg .f64 t) = false := by cases sg .f64 t <;> rfl
  rw [hx] at h2 ⊢
  exact round_nonneg (by show (0 : Rat) ≤ vl q e; exact vl_nonneg _ _)
theorem sqrt_pos {x : Nat} (hf : fin .f64 x = true) (hs : sg .f64 x = false) : ∃ r, FloatKind.f64.format.sqrt x = some r ∧ (fin .f64 r = true → 0 ≤ wv .f64 r) := by
  unfold Format.sqrt
  rw [read_fin hf, hs]
  simp only [Datum.root]
  have key : ∀ m e, 0 ≤ wv .f64 (FloatKind.f64.format.nearest false m e) := by
    intro m e
    rw [nearest_eq]
    exact round_nonneg (by show (0 : Rat) ≤ vl m e; exact vl_nonneg _ _)
  split
  · exact ⟨_, rfl, fun _ => key _ _⟩
  · exact ⟨_, rfl, fun _ => key _ _⟩
theorem den_ok {t : Nat} (h : Bd t 0) : fin .f64 (denA t) = true ∧ RP 0 ≤ rg .f64 (denA t) := by
  have hf := h.fin (by omega)
  have hm : Bd (fo .mul .f64 t t) 0 := Bd_mul (i := 0) (j := 0) h h (by omega) (by omega) (by omega) (by omega) (by omega) (by omega)
  have hK : Bd K1 0 := by unfold Bd; decide +kernel
  have hx : Bd (fo .add .f64 K1 (fo .mul .f64 t t)) 1 := Bd_add (j := 0) hK hm (by omega) (by omega)
  have h1 := one_more (hm.fin (by omega)) (square_nonneg hf)
  have hs := (nonneg_sg h1).1
  obtain ⟨r, hr, hr0⟩ := sqrt_pos (hx.fin (by omega)) hs
  have hb := sqrt_le (t := 1) (hx.fin (by omega)) (hx.val (by omega) (by omega)) (by omega) (by omega) hr
  have hb' : Bd r 1 := hb.mono (by omega)
  have hq : sqo (fo .add .f64 K1 (fo .mul .f64 t t)) = r := by unfold sqo; rw [hr]; rfl
  have h2 := one_more (hb'.fin (by omega)) (hr0 (hb'.fin (by omega)))
  have hd : Bd (denA t) 2 := by
    unfold denA
    rw [hq]
    exact Bd_add (j := 1) (hK.mono (by omega)) hb' (by omega) (by omega)
  refine ⟨hd.fin (by omega), ?_⟩
  rw [← hq] at h2
  have h3 := (nonneg_sg (x := denA t) h2).2
  show RP 0 ≤ _
  rw [show RP 0 = K1 by decide +kernel]
  by_cases h4 : K1 ≤ rg .f64 (denA t)
  · exact h4
  · have := rv_lt FloatKind.f64.format (r := rg .f64 (denA t)) (s := K1) K1_inf (by omega)
    grind
theorem rndA_bd {t : Nat} (h : Bd t 0) : Bd (rndA t) 0 := by
  obtain ⟨h1, h2⟩ := den_ok h
  exact Bd_quo (i := 0) (j := 0) h h1 h2 (by omega) (by omega) (by omega) (by omega) (by omega) (by omega)
theorem rndI_bd {t : Nat} (h : Bd t 0) : ∀ n : Nat, Bd (rndI n t) 0
  | 0 => h
  | n + 1 => rndA_bd (rndI_bd h n)
theorem foi_15 (j : Nat) (h : j < 8) : fin .f64 (floatOfInt .f64 (15 - 2 * (j : Int))) = true ∧ RP 0 ≤ rg .f64 (floatOfInt .f64 (15 - 2 * (j : Int))) := by
  have hh : j = 0 ∨ j = 1 ∨ j = 2 ∨ j = 3 ∨ j = 4 ∨ j = 5 ∨ j = 6 ∨ j = 7 := by omega
  rcases hh with rfl | rfl | rfl | rfl | rfl | rfl | rfl | rfl <;> decide +kernel
theorem pA_bd {u : Nat} (h : Bd u 0) : ∀ j : Nat, j ≤ 8 → Bd (pA u j) j
  | 0, _ => by unfold Bd pA; decide +kernel
  | j + 1, hj => by
    have h1 := pA_bd h j (by omega)
    obtain ⟨h2, h3⟩ := foi_15 j (by omega)
    have h4 : Bd (fo .quo .f64 K1 (floatOfInt .f64 (15 - 2 * (j : Int)))) 0 := Bd_quo (i := 0) (j := 0) (by unfold Bd; decide +kernel) h2 h3 (by omega) (by omega) (by omega) (by omega) (by omega) (by omega)
    have h5 : Bd (fo .mul .f64 u (pA u j)) j := (Bd_mul (i := 0) (j := j) h h1 (by omega) (by omega) (by omega) (by omega) (by omega) (by omega)).mono (by omega)
    have := Bd_sub (j := j) (h4.mono (by omega)) h5 (by omega) (by omega)
    unfold pA
    exact this.mono (by omega)
theorem angM_bd {t : Nat} (h : Bd t 0) : Bd (angM t) 9 := by
  have hu : Bd (fo .mul .f64 t t) 0 := Bd_mul (i := 0) (j := 0) h h (by omega) (by omega) (by omega) (by omega) (by omega) (by omega)
  have hp := pA_bd hu 8 (by omega)
  have h1 : Bd (fo .mul .f64 t (pA (fo .mul .f64 t t) 8)) 8 := (Bd_mul (i := 0) (j := 8) h hp (by omega) (by omega) (by omega) (by omega) (by omega) (by omega)).mono (by omega)
  have h2 : Bd (fo .mul .f64 K8 (fo .mul .f64 t (pA (fo .mul .f64 t t) 8))) 11 := (Bd_mul (i := 3) (j := 8) (by unfold Bd; decide +kernel) h1 (by omega) (by omega) (by omega) (by omega) (by omega) (by omega)).mono (by omega)
  exact (Bd_quo (i := 11) (j := 2) h2 (by decide +kernel) (by decide +kernel) (by omega) (by omega) (by omega) (by omega) (by omega) (by omega)).mono (by omega)
theorem angO_bd {o : Bool} {a : Nat} (h : Bd a 9) : Bd (angO o a) 10 := by
  unfold angO
  split
  · exact (Bd_sub (j := 9) (by unfold Bd; decide +kernel) h (by omega) (by omega)).mono (by omega)
  · exact h.mono (by omega)
theorem angX_bd {o : Bool} {a : Nat} (h : Bd a 10) : Bd (angX o a) 11 := by
  unfold angX
  split
  · exact (Bd_sub (j := 10) (by unfold Bd; decide +kernel) h (by omega) (by omega)).mono (by omega)
  · exact h.mono (by omega)
theorem angY_bd {o : Bool} {a : Nat} (h : Bd a 11) : Bd (angY o a) 127 := by
  unfold angY
  split
  · exact (Bd_neg h (by omega)).mono (by omega)
  · exact h.mono (by omega)
/-- The first ratio: of a and b the lesser by the greater. -/
def ratA (a b : Nat) : Nat := if gtrC a b then fo .quo .f64 b a else fo .quo .f64 a b
theorem ratA_bd {a b : Nat} (ha : a < FloatKind.f64.format.infRung) (hb : b < FloatKind.f64.format.infRung) (h : a ≠ 0 ∨ b ≠ 0) : Bd (ratA a b) 0 := by
  obtain ⟨fa, la⟩ := fin_lt (k := .f64) ha
  obtain ⟨fb, lb⟩ := fin_lt (k := .f64) hb
  have ra : rg .f64 a = a := Nat.mod_eq_of_lt la
  have rb : rg .f64 b = b := Nat.mod_eq_of_lt lb
  have hg : gtrC a b = decide (b < a) := by
    unfold gtrC
    rw [gt_fin fa fb, wv_pos_word la, wv_pos_word lb]
    exact decide_eq_decide.2 (rv_lt_iff _ (Nat.le_of_lt hb) (Nat.le_of_lt ha))
  unfold ratA
  rw [hg]
  by_cases hlt : b < a
  · rw [decide_eq_true hlt, if_pos rfl]
    obtain ⟨r, hr, hb⟩ := Bd_div (c := 0) fb fa (by omega) (by rw [ra, rb, vl_one_zero, Rat.mul_one]; exact rv_le _ (Nat.le_of_lt ha) (by omega)) (by omega) (by omega)
    rw [fo_some hr]; exact hb
  · rw [decide_eq_false hlt, if_neg (by simp)]
    obtain ⟨r, hr, hb⟩ := Bd_div (c := 0) fa fb (by omega) (by rw [ra, rb, vl_one_zero, Rat.mul_one]; exact rv_le _ (Nat.le_of_lt hb) (by omega)) (by omega) (by omega)
    rw [fo_some hr]; exact hb
/-! ### Signs and zeros, of a 32-bit number and of its 64-bit self -/
theorem eq_zero {k : FloatKind} {b : Nat} (hf : fin k b = true) : (k.format.order b 0 == some .eq) = decide (rg k b = 0) := by
  have h0 : fin k 0 = true := by cases k <;> decide +kernel
  have hw : wv k 0 = 0 := by rw [wv_pos_word (by cases k <;> decide +kernel), rv_zero]
  have hlt : rg k b < k.format.infRung := of_decide_eq_true hf
  rw [eq_fin hf h0, hw]
  refine decide_eq_decide.2 ?_
  unfold wv
  constructor
  · intro h
    by_cases hr : rg k b = 0
    · exact hr
    · have := rv_pos k.format (Nat.le_of_lt hlt) (Nat.pos_of_ne_zero hr)
      split at h <;> grind
  · intro h
    rw [h, rv_zero]
    split <;> grind
theorem lt_zero {k : FloatKind} {b : Nat} (hf : fin k b = true) : (k.format.order b 0 == some .lt) = (sg k b && decide (rg k b ≠ 0)) := by
  have h0 : fin k 0 = true := by cases k <;> decide +kernel
  have hw : wv k 0 = 0 := by rw [wv_pos_word (by cases k <;> decide +kernel), rv_zero]
  have hlt : rg k b < k.format.infRung := of_decide_eq_true hf
  rw [lt_fin hf h0, hw]
  rw [Bool.eq_iff_iff]
  simp only [Bool.and_eq_true, decide_eq_true_eq]
  unfold wv
  have hn := rv_nonneg k.format (rg k b)
  constructor
  · intro h
    cases hs : sg k b
    · rw [hs] at h; simp at h; grind
    · rw [hs] at h
      refine ⟨rfl, ?_⟩
      intro h2
      rw [h2, rv_zero] at h
      simp at h
  · rintro ⟨hs, hr⟩
    rw [hs, if_pos rfl]
    have := rv_pos k.format (Nat.le_of_lt hlt) (Nat.pos_of_ne_zero hr)
    grind
theorem wr_zero {b : Nat} (hf : fin .f32 b = true) : wr b = 0 ↔ rg .f32 b = 0 := by
  constructor
  · intro h
    by_cases hr : rg .f32 b = 0
    · exact hr
    · exfalso
      have hlt : rg .f32 b < FloatKind.f32.format.infRung := of_decide_eq_true hf
      have hp := rv_pos FloatKind.f32.format (Nat.le_of_lt hlt) (Nat.pos_of_ne_zero hr)
      have hm : mg FloatKind.f32.format (rg .f32 b) ≠ 0 := by
        intro hm
        unfold rv at hp
        rw [hm] at hp
        unfold vl at hp
        simp at hp
      have h1 : vl 1 (-149) ≤ vl (mg FloatKind.f32.format (rg .f32 b)) (pl FloatKind.f32.format (rg .f32 b)) := by
        have hpl := pl_ge FloatKind.f32.format (rg .f32 b)
        rw [lp32] at hpl
        exact rle_trans (vl1_le.2 hpl) (vl_le_same.2 (by omega))
      have h2 := nr_ge_p2 (by omega) (by omega) h1
      unfold wr at h
      rw [h] at h2
      revert h2
      decide +kernel
  · intro h
    unfold wr
    rw [h]
    decide +kernel
/-- What AngleTurns gives, every NaN told as one. -/
def angF (y x : Nat) : Nat :=
  if fin .f32 y && fin .f32 x then
    (if rg .f32 x = 0 ∧ rg .f32 y = 0 then 0
     else co .f64 .f32 (angY (sg .f32 y && decide (rg .f32 y ≠ 0)) (angX (sg .f32 x && decide (rg .f32 x ≠ 0)) (angO (gtrC (wr y) (wr x)) (angM (rndI 3 (ratA (wr y) (wr x))))))))
  else qn .f32
end Go.Proofs.Ytokbpcfgeklliaa
