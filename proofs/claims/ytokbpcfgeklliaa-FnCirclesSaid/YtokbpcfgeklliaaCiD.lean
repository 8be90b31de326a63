/-
  The product of two phasors of 64ths of turns: each step of it, and that it is near.
-/
import Derived.Test.YtokbpcfgeklliaaCiC
import Derived.Test.YtokbpcfgeklliaaCiPA
import Derived.Test.YtokbpcfgeklliaaCiPB
import Derived.Test.YtokbpcfgeklliaaCiPC
import Derived.Test.YtokbpcfgeklliaaCiPD
namespace Go.Proofs.Ytokbpcfgeklliaa
open Go.RowKit
theorem prod_fin {i j : Nat} (hi : i < 64) (hj : j < 64) : prodB i j = true := by
  by_cases h1 : i < 16
  · exact prod_A ⟨i, h1⟩ ⟨j, hj⟩
  by_cases h2 : i < 32
  · have := prod_B ⟨i - 16, by omega⟩ ⟨j, hj⟩
    rwa [show (⟨i - 16, by omega⟩ : Fin 16).val + 16 = i by show i - 16 + 16 = i; omega] at this
  by_cases h3 : i < 48
  · have := prod_C ⟨i - 32, by omega⟩ ⟨j, hj⟩
    rwa [show (⟨i - 32, by omega⟩ : Fin 16).val + 32 = i by show i - 32 + 32 = i; omega] at this
  · have := prod_D ⟨i - 48, by omega⟩ ⟨j, hj⟩
    rwa [show (⟨i - 48, by omega⟩ : Fin 16).val + 48 = i by show i - 48 + 48 = i; omega] at this
theorem near_out {x y : Nat} (h : nearC x y = true) : ∃ a b g, wid x = some a ∧ wid y = some b ∧ gapC a b = some g ∧ leC g KT4 = true := by
  unfold nearC at h
  cases h1 : wid x with
  | none => rw [h1] at h; cases h
  | some a =>
    cases h2 : wid y with
    | none => rw [h1, h2] at h; cases h
    | some b =>
      cases h3 : gapC a b with
      | none => rw [h1, h2] at h; simp only [Option.bind_eq_bind, Option.bind_some, h3] at h; cases h
      | some g =>
        rw [h1, h2] at h
        simp only [Option.bind_eq_bind, Option.bind_some, h3] at h
        exact ⟨a, b, g, rfl, rfl, h3, h⟩
theorem mul_out {p q z : Nat × Nat} (h : mulC p q = some z) : ∃ a b c d ac bd re ad bc im, wid p.1 = some a ∧ wid p.2 = some b ∧ wid q.1 = some c ∧ wid q.2 = some d ∧ floatBits .mul .f64 a c = some ac ∧ floatBits .mul .f64 b d = some bd ∧ floatBits .sub .f64 ac bd = some re ∧
    floatBits .mul .f64 a d = some ad ∧ floatBits .mul .f64 b c = some bc ∧ floatBits .add .f64 ad bc = some im ∧ nar re = some z.1 ∧ nar im = some z.2 := by
  unfold mulC at h
  simp only [Option.bind_eq_bind, Option.bind_eq_some_iff] at h
  obtain ⟨a, ha, b, hb, c, hc, d, hd, ac, hac, bd, hbd, re, hre, ad, had, bc, hbc, im, him, x, hx, y, hy, he⟩ := h
  cases he
  exact ⟨a, b, c, d, ac, bd, re, ad, bc, im, ha, hb, hc, hd, hac, hbd, hre, had, hbc, him, hx, hy⟩
theorem prod_facts {i j : Nat} (hi : i < 64) (hj : j < 64) : ∃ z : Nat × Nat, mulC (phT i) (phT j) = some z ∧ nearC z.1 (phT ((i + j) % 64)).1 = true ∧ nearC z.2 (phT ((i + j) % 64)).2 = true := by
  have h := prod_fin hi hj
  unfold prodB at h
  cases hz : mulC (phT i) (phT j) with
  | none => rw [hz] at h; cases h
  | some z =>
    rw [hz] at h
    obtain ⟨h1, h2⟩ := and_out h
    exact ⟨z, rfl, h1, h2⟩
end Go.Proofs.Ytokbpcfgeklliaa
