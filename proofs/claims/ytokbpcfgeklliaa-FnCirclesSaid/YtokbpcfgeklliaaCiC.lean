/-
  What the law asks of one phasor of 64ths of turns: its power, its angle, its real part, held by the kernel.
-/
import Derived.Test.YtokbpcfgeklliaaCiB
namespace Go.Proofs.Ytokbpcfgeklliaa
open Go.RowKit
set_option linter.unusedSimpArgs false
def aTab : List Nat := [0, 1015021568, 1023410176, 1027604479, 1031798784, 1033895936, 1035993088, 1038090240, 1040187392, 1041235968, 1042284544, 1043333120, 1044381696, 1045430272, 1046478848, 1047527424, 1048576000, 1049100288, 1049624576, 1050148864, 1050673152, 1051197440, 1051721728, 1052246016, 1052770304, 1053294592, 1053818880, 1054343168, 1054867456, 1055391744, 1055916032, 1056440320, 1056964608, 3203923968, 3203399680, 3202875392, 3202351104, 3201826816, 3201302528, 3200778240, 3200253952, 3199729664, 3199205376, 3198681088, 3198156800, 3197632512, 3197108224, 3196583936, 3196059648, 3195011072, 3193962496, 3192913920, 3191865344, 3190816768, 3189768192, 3188719616, 3187671040, 3185573888, 3183476736, 3181379584, 3179282432, 3175088127, 3170893824, 3162505216]
def aT (i : Nat) : Nat := aTab.getD i 0
def KT4 : Nat := 4547007122018943789
def KT3 : Nat := 4562254508917369340
def KTT : Nat := 4666723447345250304
def ob (o : Option Nat) (p : Nat → Bool) : Bool := match o with | some v => p v | none => false
def obI (o : Option Int) (p : Int → Bool) : Bool := match o with | some v => p v | none => false
theorem ob_out {o : Option Nat} {p : Nat → Bool} (h : ob o p = true) : ∃ v, o = some v ∧ p v = true := by
  cases o with
  | none => cases h
  | some v => exact ⟨v, rfl, h⟩
theorem obI_out {o : Option Int} {p : Int → Bool} (h : obI o p = true) : ∃ v, o = some v ∧ p v = true := by
  cases o with
  | none => cases h
  | some v => exact ⟨v, rfl, h⟩
theorem and_out {a b : Bool} (h : (a && b) = true) : a = true ∧ b = true := by cases a <;> cases b <;> first | exact ⟨rfl, rfl⟩ | cases h
def gtB (x y : Nat) : Bool := FloatKind.f64.format.order x y == some .gt
/-- The phasor's words are no NaN, and its angle. -/
def wordB (i : Nat) : Bool := !isN .f32 (phT i).1 && (!isN .f32 (phT i).2 && ((Lit.float .f32 (phT i).1).wf && ((Lit.float .f32 (phT i).2).wf && (!isN .f32 (aT i) && decide (angF (phT i).2 (phT i).1 = aT i)))))
def powB (i : Nat) : Bool := ob (wid (phT i).1) fun a => ob (wid (phT i).2) fun b => ob (floatBits .mul .f64 a a) fun aa => ob (floatBits .mul .f64 b b) fun bb => ob (floatBits .add .f64 aa bb) fun s => ob (nar s) fun p => ob (wid p) fun g => ob (gapC g K1) fun d => !gtB d KT4
def angB (a : Int) : Bool := ob (wid (aT (a % 64).toNat)) fun u => ob (floatBits .mul .f64 u K64) fun t1 => ob (floatBits .sub .f64 t1 (floatOfInt .f64 a)) fun turn => ob (floatBits .add .f64 turn KTT) fun t2 => obI (floatToIntVal .f64 t2 .i64) fun wh =>
  decide (9000 ≤ wh) && (decide (wh ≤ 11000) && (decide (Int.tmod (wh - 10000) 64 = 0) && ob (gapC turn (floatOfInt .f64 (wh - 10000))) fun d => !gtB d KT3))
def realB (a : Int) : Bool := decide (Int.tmod a 16 ≠ 0) || ob (wid (phT (a % 64).toNat).1) fun d => ob (gapC d 0) fun g => (FloatKind.f64.format.order g 0 == some .eq) || (FloatKind.f64.format.order g K1 == some .eq)
set_option maxRecDepth 100000 in
theorem word_ok : ∀ i : Fin 64, wordB i.val = true := by decide +kernel
set_option maxRecDepth 100000 in
theorem pow_ok : ∀ i : Fin 64, powB i.val = true := by decide +kernel
set_option maxRecDepth 100000 in
theorem ang_ok : ∀ i : Fin 256, angB ((i.val : Int) - 128) = true := by decide +kernel
set_option maxRecDepth 100000 in
theorem real_ok : ∀ i : Fin 256, realB ((i.val : Int) - 128) = true := by decide +kernel
theorem word_all {i : Nat} (h : i < 64) : isN .f32 (phT i).1 = false ∧ isN .f32 (phT i).2 = false ∧ (Lit.float .f32 (phT i).1).wf = true ∧ (Lit.float .f32 (phT i).2).wf = true ∧ isN .f32 (aT i) = false ∧ angF (phT i).2 (phT i).1 = aT i := by
  have h := word_ok ⟨i, h⟩
  obtain ⟨h1, h⟩ := and_out h
  obtain ⟨h2, h⟩ := and_out h
  obtain ⟨h3, h⟩ := and_out h
  obtain ⟨h4, h⟩ := and_out h
  obtain ⟨h5, h6⟩ := and_out h
  have e : ∀ b : Bool, (!b) = true → b = false := by intro b hb; cases b <;> first | rfl | cases hb
  exact ⟨e _ h1, e _ h2, h3, h4, e _ h5, of_decide_eq_true h6⟩
theorem not_gt {b : Bool} (h : (!b) = true) : b = false := by cases b <;> first | rfl | cases h
theorem pow_all {i : Nat} (h : i < 64) : ∃ a b aa bb s p g d, wid (phT i).1 = some a ∧ wid (phT i).2 = some b ∧ floatBits .mul .f64 a a = some aa ∧ floatBits .mul .f64 b b = some bb ∧ floatBits .add .f64 aa bb = some s ∧ nar s = some p ∧ wid p = some g ∧ gapC g K1 = some d ∧ gtB d KT4 = false := by
  have h := pow_ok ⟨i, h⟩
  obtain ⟨a, h1, h⟩ := ob_out h
  obtain ⟨b, h2, h⟩ := ob_out h
  obtain ⟨aa, h3, h⟩ := ob_out h
  obtain ⟨bb, h4, h⟩ := ob_out h
  obtain ⟨s, h5, h⟩ := ob_out h
  obtain ⟨p, h6, h⟩ := ob_out h
  obtain ⟨g, h7, h⟩ := ob_out h
  obtain ⟨d, h8, h⟩ := ob_out h
  exact ⟨a, b, aa, bb, s, p, g, d, h1, h2, h3, h4, h5, h6, h7, h8, not_gt h⟩
theorem ang_all {a : Int} (h0 : -128 ≤ a) (h1 : a ≤ 127) : ∃ u t1 turn t2 wh d, wid (aT (a % 64).toNat) = some u ∧ floatBits .mul .f64 u K64 = some t1 ∧ floatBits .sub .f64 t1 (floatOfInt .f64 a) = some turn ∧ floatBits .add .f64 turn KTT = some t2 ∧ floatToIntVal .f64 t2 .i64 = some wh ∧
    9000 ≤ wh ∧ wh ≤ 11000 ∧ Int.tmod (wh - 10000) 64 = 0 ∧ gapC turn (floatOfInt .f64 (wh - 10000)) = some d ∧ gtB d KT3 = false := by
  have h := ang_ok ⟨(a + 128).toNat, by omega⟩
  rw [show ((⟨(a + 128).toNat, by omega⟩ : Fin 256).val : Int) - 128 = a by show ((a + 128).toNat : Int) - 128 = a; omega] at h
  obtain ⟨u, h1, h⟩ := ob_out h
  obtain ⟨t1, h2, h⟩ := ob_out h
  obtain ⟨turn, h3, h⟩ := ob_out h
  obtain ⟨t2, h4, h⟩ := ob_out h
  obtain ⟨wh, h5, h⟩ := obI_out h
  obtain ⟨h6, h⟩ := and_out h
  obtain ⟨h7, h⟩ := and_out h
  obtain ⟨h8, h⟩ := and_out h
  obtain ⟨d, h9, h⟩ := ob_out h
  exact ⟨u, t1, turn, t2, wh, d, h1, h2, h3, h4, h5, of_decide_eq_true h6, of_decide_eq_true h7, of_decide_eq_true h8, h9, not_gt h⟩
theorem real_all {a : Int} (h0 : -128 ≤ a) (h1 : a ≤ 127) : Int.tmod a 16 ≠ 0 ∨ ∃ d g, wid (phT (a % 64).toNat).1 = some d ∧ gapC d 0 = some g ∧ ((FloatKind.f64.format.order g 0 == some .eq) = true ∨ (FloatKind.f64.format.order g K1 == some .eq) = true) := by
  have h := real_ok ⟨(a + 128).toNat, by omega⟩
  rw [show ((⟨(a + 128).toNat, by omega⟩ : Fin 256).val : Int) - 128 = a by show ((a + 128).toNat : Int) - 128 = a; omega] at h
  unfold realB at h
  rcases Bool.or_eq_true_iff.1 h with h | h
  · exact .inl (of_decide_eq_true h)
  · obtain ⟨d, h1, h⟩ := ob_out h
    obtain ⟨g, h2, h⟩ := ob_out h
    exact .inr ⟨d, g, h1, h2, Bool.or_eq_true_iff.1 h⟩
/-! ### Of integers and angles that stand alone -/
theorem angle_i : angF 1065353216 0 = 1048576000 := by decide +kernel
end Go.Proofs.Ytokbpcfgeklliaa
