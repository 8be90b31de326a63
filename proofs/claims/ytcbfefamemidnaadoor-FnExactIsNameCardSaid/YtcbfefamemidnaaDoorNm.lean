/-
  IsName: both sides walked; the law.
-/
import Derived.Test.YtcbfefamemidnaaDoorRows
import Derived.Test.YtcbfefamemidnaaDoorShN
import Derived.Lib.Hide
import Derived.ProofKit
import Derived.OpenShut
import Derived.Below
namespace Go.Proofs.YtcbfefamemidnaaDoor
open Go.RowKit
set_option linter.unusedVariables false
set_option linter.unusedSimpArgs false

def letters : List UInt8 := [97, 98, 99, 100, 101, 102, 103, 104, 105, 106, 107, 108, 109, 110, 111, 112, 113, 114, 115, 116, 117, 118, 119, 120, 121, 122]
def isLow (b : UInt8) : Bool := decide (97 ≤ b.toNat ∧ b.toNat ≤ 122)
theorem letters_low (b : UInt8) : letters.contains b = isLow b := by
  have h : ∀ n : Fin 256, letters.contains (UInt8.ofFin n) = isLow (UInt8.ofFin n) := by decide +kernel
  exact h b.toFin
theorem dropWhile_nil {α : Type} (p : α → Bool) : ∀ l : List α, (l.dropWhile p = []) ↔ l.all p = true
  | [] => by simp
  | x :: l => by
    have := dropWhile_nil p l
    rw [List.dropWhile_cons]
    cases h : p x
    · simp [h]
    · simp [h, this]
def allLow (l : List UInt8) : Bool := l.all isLow
theorem all_tail (p : UInt8 → Bool) (l : List UInt8) : ((l.reverse.dropWhile p).reverse).all p = l.all p := by
  have key : ∀ m : List UInt8, (m.dropWhile p).all p = m.all p := by
    intro m
    induction m with
    | nil => rfl
    | cons x m ih =>
      rw [List.dropWhile_cons]
      cases h : p x
      · simp [h]
      · simp [h, ih]
  rw [List.all_reverse, key, List.all_reverse]
theorem trim_nil (l : List UInt8) : (Lib.trimS l letters = []) ↔ allLow l = true := by
  unfold Lib.trimS Lib.trimLeftS Lib.trimRightS
  have hp : (fun x => letters.contains x) = isLow := funext letters_low
  rw [hp, dropWhile_nil, all_tail]
  rfl
def nmB (s : ByteArray) : Bool := allLow s.data.toList && decide (1 ≤ s.size ∧ s.size ≤ 8)
theorem low_take (s : ByteArray) (k : Nat) (h : k < s.size) : allLow (s.data.toList.take (k + 1)) = (allLow (s.data.toList.take k) && isLow s[k]) := by
  unfold allLow
  rw [List.take_succ_eq_append_getElem (by simpa using h), List.all_append]
  simp
  rfl
theorem low_of_take (l : List UInt8) (k : Nat) (h : allLow (l.take k) = false) : allLow l = false := by
  unfold allLow at h ⊢
  cases hh : l.all isLow
  · rfl
  · rw [List.all_eq_true] at hh
    have : (l.take k).all isLow = true := List.all_eq_true.2 (fun x hx => hh x (List.mem_of_mem_take hx))
    rw [this] at h
    cases h
set_option maxHeartbeats 1000000 in
theorem specName_any (s : ByteArray) (w : World) (hs : s.size ≤ 1048576) :
    Calls Tryd.prog 15 #[.string s] w fun e w' => e = .returned (.bool (nmB s)) ∧ w = w' := by
  go_enter Tryd.func15, Tryd.ntmps15
  go_wp2
  go_loop [3] (fun i => ∃ k : Nat, k ≤ s.size ∧ i = .int .i64 k ∧ allLow (s.data.toList.take k) = true) (fun i => s.size - (intOf i).toNat)
  case atStart => exact ⟨0, Nat.zero_le _, rfl, rfl⟩
  case round =>
    obtain ⟨k, hk, rfl, ha⟩ := hrel
    by_cases hlt : k < s.size
    · have ht := low_take s k hlt
      rw [ha, Bool.true_and] at ht
      by_cases h1 : (s[k].toNat : Int) < 97
      · have hB : nmB s = false := by
          have : isLow s[k] = false := decide_eq_false (by omega)
          unfold nmB
          rw [low_of_take _ (k + 1) (by rw [ht, this])]
          rfl
        have HB := Lib.hid hB
        clear ht ha hB
        go_wp2
        go_ret
        exact ⟨by rw [HB.out]; rfl, rfl⟩
      · by_cases h2 : 122 < (s[k].toNat : Int)
        · have hB : nmB s = false := by
            have : isLow s[k] = false := decide_eq_false (by omega)
            unfold nmB
            rw [low_of_take _ (k + 1) (by rw [ht, this])]
            rfl
          have HB := Lib.hid hB
          clear ht ha hB
          go_wp2
          go_ret
          exact ⟨by rw [HB.out]; rfl, rfl⟩
        · have hl : isLow s[k] = true := decide_eq_true (by omega)
          rw [hl] at ht
          have HT := Lib.hid ht
          clear ht ha hl
          go_wp2
          go_round
          case rel => exact ⟨k + 1, by omega, by go_num, HT.out⟩
          case measure => simp [intOf]; omega
    · obtain rfl : k = s.size := by omega
      rw [List.take_of_length_le (by simp)] at ha
      have HA := Lib.hid ha
      clear ha
      by_cases h1 : 1 ≤ s.size
      · by_cases h2 : s.size ≤ 8
        · have hB : Hid (nmB s = true) := by show nmB s = true; unfold nmB; rw [HA.out, decide_eq_true ⟨h1, h2⟩]; rfl
          go_wp2
          go_ret
          exact ⟨by rw [hB.out]; first | rfl | (simp; omega), rfl⟩
        · have hB : Hid (nmB s = false) := by show nmB s = false; unfold nmB; rw [HA.out, decide_eq_false (by omega)]; rfl
          go_wp2
          go_ret
          exact ⟨by rw [hB.out]; first | rfl | (simp; omega), rfl⟩
      · have hB : Hid (nmB s = false) := by show nmB s = false; unfold nmB; rw [HA.out, decide_eq_false (by omega)]; rfl
        go_wp2
        go_ret
        exact ⟨by rw [hB.out]; first | rfl | (simp; omega), rfl⟩
def inB (n lo hi : Int) : Bool := decide (lo ≤ n ∧ n ≤ hi)
set_option maxHeartbeats 1000000 in
theorem within_any (n lo hi : Int) (w : World) :
    Calls Tryd.prog 43 #[.int .i64 n, .int .i64 lo, .int .i64 hi] w fun e w' => e = .returned (.bool (inB n lo hi)) ∧ w = w' := by
  by_cases h1 : lo ≤ n
  · by_cases h2 : n ≤ hi
    · rw [show inB n lo hi = true from decide_eq_true ⟨h1, h2⟩]
      go_enter Tryd.func43, Tryd.ntmps43
      go_wp2
      go_ret
      exact ⟨rfl, rfl⟩
    · rw [show inB n lo hi = false from decide_eq_false (by omega)]
      go_enter Tryd.func43, Tryd.ntmps43
      go_wp2
      go_ret
      exact ⟨rfl, rfl⟩
  · rw [show inB n lo hi = false from decide_eq_false (by omega)]
    go_enter Tryd.func43, Tryd.ntmps43
    go_wp2
    go_ret
    exact ⟨rfl, rfl⟩
set_option maxHeartbeats 1000000 in
theorem implName_any (s : ByteArray) (w : World) (hs : s.size ≤ 1048576) :
    Calls Tryd.prog 16 #[.string s] w fun e w' => e = .returned (.bool (nmB s)) ∧ Below w.heap.size w w' := by
  cases hi : inB (s.size : Int) 1 8
  · have hB : Hid (nmB s = false) := by
      show nmB s = false
      have := of_decide_eq_false hi
      unfold nmB
      rw [decide_eq_false (by omega), Bool.and_false]
    go_enter Tryd.func16, Tryd.ntmps16
    go_wp2_with (go_at_call 43; refine (within_any _ _ _ _).mono ?_; rintro e w' ⟨rfl, rfl⟩)
    go_ret
    exact ⟨by rw [hB.out]; rfl, Below.refl _ _⟩
  · have hd := of_decide_eq_true hi
    have hn : nmB s = allLow s.data.toList := by
      unfold nmB
      rw [decide_eq_true (by omega), Bool.and_true]
    have ht := trim_nil s.data.toList
    rw [hn]
    cases hl : allLow s.data.toList
    · have hne : ¬ Lib.trimS s.data.toList letters = [] := fun h => by rw [ht.1 h] at hl; cases hl
      clear ht hn hl hd
      go_enter Tryd.func16, Tryd.ntmps16
      go_wp2_with (go_at_call 43; refine (within_any _ _ _ _).mono ?_; rintro e w' ⟨rfl, rfl⟩)
      refine (Tryd.trim_letters s w (by omega)).mono ?_
      rintro e w1 ⟨rfl, hb⟩
      change ¬ Lib.trimS s.data.toList [97, 98, 99, 100, 101, 102, 103, 104, 105, 106, 107, 108, 109, 110, 111, 112, 113, 114, 115, 116, 117, 118, 119, 120, 121, 122] = [] at hne
      generalize Lib.trimS s.data.toList [97, 98, 99, 100, 101, 102, 103, 104, 105, 106, 107, 108, 109, 110, 111, 112, 113, 114, 115, 116, 117, 118, 119, 120, 121, 122] = l at *
      have HB := Lib.hid hb
      clear hb
      go_wp2
      go_ret
      exact ⟨by simp [hne], HB.out⟩
    · have he : Lib.trimS s.data.toList letters = [] := ht.2 hl
      clear ht hn hl hd
      go_enter Tryd.func16, Tryd.ntmps16
      go_wp2_with (go_at_call 43; refine (within_any _ _ _ _).mono ?_; rintro e w' ⟨rfl, rfl⟩)
      refine (Tryd.trim_letters s w (by omega)).mono ?_
      rintro e w1 ⟨rfl, hb⟩
      change Lib.trimS s.data.toList [97, 98, 99, 100, 101, 102, 103, 104, 105, 106, 107, 108, 109, 110, 111, 112, 113, 114, 115, 116, 117, 118, 119, 120, 121, 122] = [] at he
      rw [he]
      have HB := Lib.hid hb
      clear hb he
      go_wp2
      go_ret
      exact ⟨rfl, HB.out⟩
set_option maxHeartbeats 1000000 in
theorem fnExactIsName_walk (s : ByteArray) (hm : s.size ≤ maxLen) (w : World) :
    Calls Tryd.prog 5 #[.string s] w fun e w' => e = .returned (.bool true) ∧ Below w.heap.size w w' := by
  unfold maxLen at hm
  by_cases hs : s.size ≤ 1048576
  · go_enter Tryd.func5, Tryd.ntmps5
    go_wp2_with (first | (go_at_call 15; refine (specName_any _ _ hs).mono ?_; rintro e w' ⟨rfl, rfl⟩) | (go_at_call 16; refine (implName_any _ _ hs).mono ?_; rintro e w' ⟨rfl, hb⟩))
    go_ret
    exact ⟨rfl, hb⟩
  · go_enter Tryd.func5, Tryd.ntmps5
    go_wp2_with fail
    go_ret
    exact ⟨rfl, Below.refl _ _⟩
end Go.Proofs.YtcbfefamemidnaaDoor
