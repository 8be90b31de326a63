/-
  A text cut at its commas. Plain.
-/
import Derived.Lib.Split
import Derived.Lib.IndexBytes
import Derived.WideShapes
namespace Go.Proofs.YtcbfefamemidnaaDoor
open Go.Lib

/-- The parts of a text behind 'cur'. -/
def cutF : List UInt8 → List UInt8 → List (List UInt8)
  | cur, [] => [cur]
  | cur, c :: r => if c = 44 then cur :: cutF [] r else cutF (cur ++ [c]) r
def cut (l : List UInt8) : List (List UInt8) := cutF [] l
theorem cut_pos : ∀ (r cur : List UInt8), 0 < (cutF cur r).length
  | [], cur => by simp [cutF]
  | c :: r, cur => by
    unfold cutF
    split
    · simp
    · exact cut_pos r _
theorem cutF_le : ∀ (r cur : List UInt8), (cutF cur r).length ≤ r.length + 1
  | [], cur => by simp [cutF]
  | c :: r, cur => by
    unfold cutF
    split
    · have := cutF_le r []; simp; omega
    · have := cutF_le r (cur ++ [c]); simp; omega
theorem cutF_mem : ∀ (r cur : List UInt8), ∀ x ∈ cutF cur r, x.length ≤ cur.length + r.length
  | [], cur, x, h => by simp [cutF] at h; subst h; simp
  | c :: r, cur, x, h => by
    unfold cutF at h
    split at h
    · rcases List.mem_cons.1 h with rfl | h
      · omega
      · have := cutF_mem r [] x h; simp at this ⊢; omega
    · have := cutF_mem r _ x h; simp at this ⊢; omega
theorem index_cut : ∀ (s : List UInt8), (indexByte s 44 = -1 ∧ ∀ cur, cutF cur s = [cur ++ s]) ∨
    (∃ i : Nat, indexByte s 44 = i ∧ i < s.length ∧ ∀ cur, cutF cur s = (cur ++ s.take i) :: cutF [] (s.drop (i + 1)))
  | [] => .inl ⟨rfl, fun cur => by simp [cutF]⟩
  | c :: s => by
    by_cases h : c = 44
    · subst h
      exact .inr ⟨0, by simp [indexByte], by simp, fun cur => by simp [cutF]⟩
    · rcases index_cut s with ⟨h1, h2⟩ | ⟨i, h1, h2, h3⟩
      · refine .inl ⟨by simp [indexByte, h, h1], fun cur => ?_⟩
        unfold cutF
        rw [if_neg h, h2]
        simp
      · refine .inr ⟨i + 1, ?_, by simpa using h2, fun cur => ?_⟩
        · have hc : ¬ ((i : Int) = -1) := by omega
          simp [indexByte, h, h1, hc]
        · rw [cutF, if_neg h, h3]
          simp
theorem split_cut : ∀ (n : Nat) (s : List UInt8), s.length ≤ n → splitK [44] 0 (count s [44]) s = cut s ∧ count s [44] + 1 = (cut s).length
  | n, s, hn => by
    unfold cut
    rcases index_cut s with ⟨h1, h2⟩ | ⟨i, h1, h2, h3⟩
    · rw [← index_one] at h1
      rw [count_miss h1, h2]
      exact ⟨rfl, rfl⟩
    · rw [← index_one] at h1
      have hc : count s [44] = 1 + count (s.drop (i + 1)) [44] := count_hit (by simp) h1
      have hm : ¬ (index s [44] == -1) = true := fun e => by have := beq_iff_eq.1 e; omega
      have ht : (index s [44]).toNat = i := by omega
      obtain ⟨m, rfl⟩ : ∃ m, n = m + 1 := ⟨n - 1, by omega⟩
      obtain ⟨k1, k2⟩ := split_cut m (s.drop (i + 1)) (by simp; omega)
      unfold cut at k1 k2
      rw [hc, Nat.add_comm 1, splitK, if_neg hm, ht, h3, List.nil_append, Nat.add_zero]
      refine ⟨?_, by rw [List.length_cons, k2]⟩
      rw [← k1]
      rfl
theorem splitB_cut (s : ByteArray) : (splitB ⟨#[44]⟩ 0 (countB s ⟨#[44]⟩) s).map (·.data.toList) = cut s.data.toList ∧ countB s ⟨#[44]⟩ + 1 = (cut s.data.toList).length := by
  rw [splitB_data]
  exact split_cut _ s.data.toList (Nat.le_refl _)
/-- The pieces as strings. -/
theorem split_strs (s : ByteArray) : (splitB ⟨#[44]⟩ 0 (countB s ⟨#[44]⟩) s).map Value.string = (cut s.data.toList).map fun l => Value.string ⟨l.toArray⟩ := by
  rw [← (splitB_cut s).1, List.map_map]
  rfl
/-- One step of the reference's loop. -/
theorem cut_end (l : List UInt8) (a : Nat) : cutF ((l.drop a).take (l.length - a)) (l.drop l.length) = [(l.drop a).take (l.length - a)] := by simp [cutF]
theorem cut_mark {l : List UInt8} {i : Nat} (h : i < l.length) (hm : l[i] = 44) (cur : List UInt8) : cutF cur (l.drop i) = cur :: cutF [] (l.drop (i + 1)) := by
  rw [List.drop_eq_getElem_cons h, cutF, if_pos hm]
theorem cut_other {l : List UInt8} {i a : Nat} (h : i < l.length) (ha : a ≤ i) (hm : ¬ l[i] = 44) : cutF ((l.drop a).take (i - a)) (l.drop i) = cutF ((l.drop a).take (i + 1 - a)) (l.drop (i + 1)) := by
  rw [List.drop_eq_getElem_cons h, cutF, if_neg hm]
  congr 1
  have hlt : i - a < (l.drop a).length := by simp; omega
  rw [show i + 1 - a = (i - a) + 1 by omega, List.take_succ_eq_append_getElem hlt]
  congr 2
  simp
  congr 1
  omega
theorem ext_list (s : ByteArray) (a b : Nat) : s.extract a b = ⟨((s.data.toList.drop a).take (b - a)).toArray⟩ := by
  apply Go.WideShapes.bytes_inj
  rw [extract_data]
end Go.Proofs.YtcbfefamemidnaaDoor
