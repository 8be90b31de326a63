/-
  Phasors of 64ths of turns: the table, held against the functions by the kernel.
-/
import Derived.Test.YtokbpcfgeklliaaPh
import Derived.Test.YtokbpcfgeklliaaAngI
namespace Go.Proofs.Ytokbpcfgeklliaa
open Go.RowKit
set_option linter.unusedSimpArgs false
def K64 : Nat := 4634204016564240384
/-- a/64. -/
def tq (a : Int) : Nat := fo .quo .f64 (floatOfInt .f64 a) K64
def phTab : List (Nat × Nat) := [(1065353216, 0), (1065272429, 1036565814), (1065030846, 1044891074), (1064630795, 1049927729), (1064076126, 1053028117), (1063372184, 1056004842), (1062525745, 1057896922), (1061544963, 1059219353), (1060439283, 1060439283), (1059219353, 1061544963), (1057896922, 1062525745), (1056004842, 1063372184), (1053028117, 1064076126), (1049927729, 1064630795), (1044891074, 1065030846), (1036565814, 1065272429), (0, 1065353216), (3184049462, 1065272429), (3192374722, 1065030846), (3197411377, 1064630795), (3200511765, 1064076126), (3203488490, 1063372184), (3205380570, 1062525745), (3206703001, 1061544963), (3207922931, 1060439283), (3209028611, 1059219353), (3210009393, 1057896922), (3210855832, 1056004842), (3211559774, 1053028117), (3212114443, 1049927729), (3212514494, 1044891074), (3212756077, 1036565814), (3212836864, 0), (3212756077, 3184049462), (3212514494, 3192374722), (3212114443, 3197411377), (3211559774, 3200511765), (3210855832, 3203488490), (3210009393, 3205380570), (3209028611, 3206703001), (3207922931, 3207922931), (3206703001, 3209028611), (3205380570, 3210009393), (3203488490, 3210855832), (3200511765, 3211559774), (3197411377, 3212114443), (3192374722, 3212514494), (3184049462, 3212756077), (0, 3212836864), (1036565814, 3212756077), (1044891074, 3212514494), (1049927729, 3212114443), (1053028117, 3211559774), (1056004842, 3210855832), (1057896922, 3210009393), (1059219353, 3209028611), (1060439283, 3207922931), (1061544963, 3206703001), (1062525745, 3205380570), (1063372184, 3203488490), (1064076126, 3200511765), (1064630795, 3197411377), (1065030846, 3192374722), (1065272429, 3184049462)]
def phT (i : Nat) : Nat × Nat := phTab.getD i (0, 0)
def tqB (a : Int) : Bool := (floatBits .quo .f64 (floatOfInt .f64 a) K64).isSome && (fin .f64 (tq a) && (decide (¬ K52 ≤ rg .f64 (tq a)) && decide (fracC (tq a) = fracC (tq (a % 64)))))
set_option maxRecDepth 100000 in
theorem tq_fin : ∀ n : Fin 511, tqB ((n.val : Int) - 256) = true := by decide +kernel
theorem tq_of {a : Int} (h0 : -256 ≤ a) (h1 : a ≤ 254) : tqB a = true := by
  have := tq_fin ⟨(a + 256).toNat, by omega⟩
  rwa [show (((a + 256).toNat : Nat) : Int) - 256 = a by omega] at this
set_option maxRecDepth 100000 in
theorem ph_lit : ∀ i : Fin 64, (decide (phR (tq (i.val : Int)) = (phT i.val).1) && decide (phI (tq (i.val : Int)) = (phT i.val).2)) = true := by decide +kernel
theorem ph_frac {t u : Nat} (ht : fin .f64 t = true) (hu : fin .f64 u = true) (kt : ¬ K52 ≤ rg .f64 t) (ku : ¬ K52 ≤ rg .f64 u) (h : fracC t = fracC u) : phR t = phR u ∧ phI t = phI u := by
  unfold phR phI phC phS phQ
  simp only [ht, hu, kt, ku, h, if_true, if_false, and_self]
/-- The phasor of a/64. -/
theorem ph_at {a : Int} (h0 : -256 ≤ a) (h1 : a ≤ 254) : phR (tq a) = (phT (a % 64).toNat).1 ∧ phI (tq a) = (phT (a % 64).toNat).2 := by
  have hm := tq_of h0 h1
  have hr := tq_of (a := a % 64) (by omega) (by omega)
  unfold tqB at hm hr
  simp only [Bool.and_eq_true, decide_eq_true_iff] at hm hr
  obtain ⟨_, f1, k1, e1⟩ := hm
  obtain ⟨_, f2, k2, _⟩ := hr
  obtain ⟨p1, p2⟩ := ph_frac f1 f2 k1 k2 e1
  have hl := ph_lit ⟨(a % 64).toNat, by omega⟩
  rw [Bool.and_eq_true, decide_eq_true_iff, decide_eq_true_iff] at hl
  rw [show (((a % 64).toNat : Nat) : Int) = a % 64 by omega] at hl
  exact ⟨p1.trans hl.1, p2.trans hl.2⟩
end Go.Proofs.Ytokbpcfgeklliaa
