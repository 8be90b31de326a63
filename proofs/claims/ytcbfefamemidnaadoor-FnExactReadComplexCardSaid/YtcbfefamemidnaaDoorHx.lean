/-
  Hexadecimal numerals, place for place. Plain.
-/
import Derived.Lib.Itoa
namespace Go.Proofs.YtcbfefamemidnaaDoor

/-- The digit of a number below 16. -/
def hx (d : Nat) : UInt8 := UInt8.ofNat (if d < 10 then 48 + d else 87 + d)
theorem hx_nat {d : Nat} (h : d < 16) : (hx d).toNat = if d < 10 then 48 + d else 87 + d := by
  unfold hx
  rw [UInt8.toNat_ofNat']
  split <;> omega
/-- The last k digits of u. -/
def hsuf (u : Nat) : Nat → List UInt8
  | 0 => []
  | k + 1 => hx (u / 16 ^ k % 16) :: hsuf u k
theorem hsuf_len (u : Nat) : ∀ k, (hsuf u k).length = k
  | 0 => rfl
  | k + 1 => by simp [hsuf, hsuf_len u k]
/-- Digits beyond the greatest are zeros. -/
theorem hsuf_pad (u K : Nat) (h : u / 16 ^ K = 0) : ∀ j, hsuf u (K + j) = List.replicate j 48 ++ hsuf u K
  | 0 => rfl
  | j + 1 => by
    have e : u / 16 ^ (K + j) = 0 := by rw [Nat.pow_add, ← Nat.div_div_eq_div_mul, h, Nat.zero_div]
    rw [← Nat.add_assoc, hsuf, e, hsuf_pad u K h j, List.replicate_succ]
    rfl
theorem hx_rest (u k : Nat) : u / 16 ^ k / 16 = u / 16 ^ (k + 1) := by rw [Nat.pow_succ, Nat.div_div_eq_div_mul]
/-- The first digits of eight. -/
theorem hsuf_take (u : Nat) : ∀ (k j : Nat), j < k → (hsuf u k).take (j + 1) = (hsuf u k).take j ++ [hx (u / 16 ^ (k - 1 - j) % 16)]
  | 0, j, h => by omega
  | k + 1, 0, _ => by simp [hsuf]
  | k + 1, j + 1, h => by
    rw [hsuf, List.take_succ_cons, List.take_succ_cons, hsuf_take u k j (by omega), List.cons_append]
    rw [show k + 1 - 1 - (j + 1) = k - 1 - j by omega]
theorem hx_fin : ∀ d : Fin 16, ((#[48, 49, 50, 51, 52, 53, 54, 55, 56, 57, 97, 98, 99, 100, 101, 102] : Array UInt8)[d.val]?) = some (hx d.val) := by decide +kernel
/-- Reading: a byte's digit, or none. -/
def hv (c : UInt8) : Option Nat := if 48 ≤ c.toNat ∧ c.toNat ≤ 57 then some (c.toNat - 48) else if 97 ≤ c.toNat ∧ c.toNat ≤ 102 then some (c.toNat - 87) else none
theorem hv_hx {d : Nat} (h : d < 16) : hv (hx d) = some d := by
  have := hx_nat h
  unfold hv
  by_cases h10 : d < 10
  · rw [if_pos h10] at this
    rw [this, if_pos (by omega)]
    congr 1
    omega
  · rw [if_neg h10] at this
    rw [this, if_neg (by omega), if_pos (by omega)]
    congr 1
    omega
theorem hx_hv {c : UInt8} {d : Nat} (h : hv c = some d) : d < 16 ∧ hx d = c := by
  unfold hv at h
  split at h
  · rename_i h1
    obtain rfl := Option.some.inj h
    refine ⟨by omega, UInt8.toNat_inj.1 ?_⟩
    rw [hx_nat (by omega), if_pos (by omega)]
    omega
  · split at h
    · rename_i h1
      obtain rfl := Option.some.inj h
      refine ⟨by omega, UInt8.toNat_inj.1 ?_⟩
      rw [hx_nat (by omega), if_neg (by omega)]
      omega
    · cases h
/-- The number that hexadecimal digits spell, if all are digits. -/
def hread : List UInt8 → Nat → Option Nat
  | [], n => some n
  | c :: r, n => match hv c with
    | some d => hread r (16 * n + d)
    | none => none
theorem hread_app : ∀ (l r : List UInt8) (n : Nat), hread (l ++ r) n = (hread l n).bind (hread r)
  | [], r, n => rfl
  | c :: l, r, n => by
    simp only [List.cons_append, hread]
    cases hv c with
    | none => rfl
    | some d => exact hread_app l r _
theorem hread_suf (u : Nat) : ∀ (k n : Nat), hread (hsuf u k) n = some (n * 16 ^ k + u % 16 ^ k)
  | 0, n => by simp [hsuf, hread, Nat.mod_one]
  | k + 1, n => by
    rw [hsuf, hread, hv_hx (by omega)]
    simp only []
    rw [hread_suf u k]
    congr 1
    have h1 : u % 16 ^ (k + 1) = u / 16 ^ k % 16 * 16 ^ k + u % 16 ^ k := by
      rw [Nat.pow_succ, Nat.mod_mul]
      rw [Nat.mul_comm (16 ^ k)]
      omega
    rw [h1, Nat.pow_succ, Nat.add_mul, ← Nat.add_assoc]
    congr 2
    rw [Nat.mul_comm 16 n, Nat.mul_assoc, Nat.mul_comm 16 (16 ^ k)]
/-- Eight digits that are read are the number's own digits. -/
theorem suf_hread : ∀ (l : List UInt8) (n m : Nat), hread l n = some m → hsuf m l.length = l ∧ m / 16 ^ l.length = n
  | [], n, m, h => by
    have : n = m := by simpa [hread] using h
    subst this
    exact ⟨rfl, by simp⟩
  | c :: l, n, m, h => by
    rw [hread] at h
    cases hc : hv c with
    | none => rw [hc] at h; cases h
    | some d =>
      rw [hc] at h
      obtain ⟨h1, h2⟩ := hx_hv hc
      obtain ⟨h3, h4⟩ := suf_hread l _ m h
      rw [List.length_cons, hsuf, h3, ← hx_rest, h4]
      refine ⟨?_, by omega⟩
      rw [show (16 * n + d) % 16 = d by omega, h2]
end Go.Proofs.YtcbfefamemidnaaDoor
