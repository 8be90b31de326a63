/-
  Words joined with commas, one after the other. Plain.
-/
import Derived.Lib.Join
namespace Go.Proofs.YtcbfefamemidnaaDoor
open Go.Lib

def jn (ws : List (List UInt8)) (k : Nat) : List UInt8 := join (ws.take k) [44]
theorem jn_one (ws : List (List UInt8)) (h : 0 < ws.length) : jn ws 1 = ws[0] := by
  cases ws with
  | nil => simp at h
  | cons x r => unfold jn; rw [List.take_succ_cons, List.take_zero, join_one]; rfl
theorem jn_step (ws : List (List UInt8)) (k : Nat) (h1 : 1 ≤ k) (h : k < ws.length) : jn ws (k + 1) = jn ws k ++ (44 :: ws[k]) := by
  cases ws with
  | nil => simp at h
  | cons x r =>
    obtain ⟨j, rfl⟩ : ∃ j, k = j + 1 := ⟨k - 1, by omega⟩
    have hj : j < r.length := by simpa using h
    unfold jn
    rw [List.take_succ_cons, List.take_succ_cons, join_cons, join_cons, joinTail_take_succ [44] r j r[j] (List.getElem?_eq_getElem hj), List.append_assoc]
    simp
theorem jn_all (ws : List (List UInt8)) : jn ws ws.length = join ws [44] := by unfold jn; rw [List.take_length]
theorem lens_le (ws : List (List UInt8)) (n : Nat) (h : ∀ x ∈ ws, x.length ≤ n) : lens ws ≤ n * ws.length := by
  induction ws with
  | nil => simp [lens]
  | cons x r ih =>
    have := ih fun y hy => h y (List.mem_cons_of_mem _ hy)
    have h0 := h x (List.mem_cons_self ..)
    rw [List.length_cons, Nat.mul_succ]
    simp [lens] at this ⊢
    omega
theorem jn_len (ws : List (List UInt8)) (k n : Nat) (h : ∀ x ∈ ws, x.length ≤ n) : (jn ws k).length ≤ (n + 1) * ws.length := by
  unfold jn
  have hk : (ws.take k).length ≤ ws.length := by simp; omega
  cases hw : ws.take k with
  | nil => simp [join_nil]
  | cons x r =>
    rw [join_length]
    have hl := lens_le (x :: r) n (fun y hy => h y (List.mem_of_mem_take (by rw [hw]; exact hy)))
    rw [hw] at hk
    have h1 : n * (x :: r).length ≤ n * ws.length := Nat.mul_le_mul_left _ hk
    rw [Nat.succ_mul]
    simp at hk ⊢
    simp at hl h1
    omega
/-- The text of some words. -/
def txt (ws : List (List UInt8)) : List UInt8 := if ws = [] then [110, 111, 110, 101] else join ws [44]
theorem txt_nil : txt [] = [110, 111, 110, 101] := rfl
theorem txt_cons {ws : List (List UInt8)} (h : 0 < ws.length) : txt ws = jn ws ws.length := by
  unfold txt
  rw [if_neg (by intro e; rw [e] at h; simp at h), jn_all]
end Go.Proofs.YtcbfefamemidnaaDoor
