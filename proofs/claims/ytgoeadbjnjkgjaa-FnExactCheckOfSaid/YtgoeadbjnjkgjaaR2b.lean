/-
  RootNumber and CheckOf: both sides, walked; the laws.
-/
import Derived.Test.YtgoeadbjnjkgjaaSame
import Derived.Test.YtgoeadbjnjkgjaaBd
import Derived.Lib.Hide
namespace Go.Proofs.Ytgoeadbjnjkgjaa
open Go.RowKit

@[go_sem] theorem call_sqrt (b : Nat) (w : World) : (callFunc 71 #[.float .f64 b]).run Try.prog w = .ok (.value (.float .f64 (sqv b w))) (w.drewN (sqd b)) := by rw [run_callFunc_extern Try.func71 (by kernel_rfl) (by kernel_rfl) (by kernel_rfl) (e := Extern.MathSqrt.sqrt) (by kernel_rfl), run_sqrt]; rfl

/-- The root of a number, narrowed. -/
def rootOf (x : Nat) : Nat := co .f64 .f32 (sqo (co .f32 .f64 (cn .f32 x)))
theorem cn_root (x : Nat) (W W' W'' : World) : cn .f32 (cv .f64 .f32 (sqv (cv .f32 .f64 x W) W') W'') = rootOf x := by
  rw [cn_cv (by decide) W'' (narrow_root W W'), cn_sqv, cn_widen]
  rfl
theorem sqv_wf (x : Nat) (w : World) : (Lit.float .f64 (sqv x w)).wf = true := by
  unfold sqv
  cases h : FloatKind.f64.format.sqrt x with
  | some r => exact wf_of_lt .f64 r (FloatKind.f64.format.sqrt_lt h)
  | none => exact cut_wf .f64 x x _
set_option maxHeartbeats 400000 in
theorem specRoot_any (x : Nat) (w : World) :
    Calls Try.prog 40 #[.float .f32 x] w fun e w' => ∃ b n, e = .returned (.float .f32 b) ∧ cn .f32 b = rootOf x ∧ w' = w.drewN n := by
  go_enter Try.func40, Try.ntmps40
  go_wp2
  go_ret
  exact ⟨_, _, rfl, cn_root _ _ _ _, rfl⟩
set_option maxHeartbeats 400000 in
theorem implRoot_any (x : Nat) (w : World) :
    Calls Try.prog 41 #[.float .f32 x] w fun e w' => ∃ b n, e = .returned (.float .f32 b) ∧ cn .f32 b = rootOf x ∧ w' = w.drewN n := by
  go_enter Try.func41, Try.ntmps41
  go_wp2
  go_ret
  exact ⟨_, _, rfl, cn_root _ _ _ _, rfl⟩
set_option maxHeartbeats 400000 in
theorem fnExactRootNumber_walk (x : Nat) (_ : (Lit.float .f32 x).wf = true) (w : World) :
    Calls Try.prog 13 #[.float .f32 x] w fun e w' => e = .returned (.bool true) ∧ Below w.heap.size w w' := by
  go_enter Try.func13, Try.ntmps13
  go_wp2_with fail
  refine (specRoot_any _ _).mono ?_
  rintro e w1 ⟨b1, n1, rfl, h1, rfl⟩
  have H1 := Lib.hid h1
  clear h1
  go_wp2_with fail
  refine (implRoot_any _ _).mono ?_
  rintro e w1 ⟨b2, n2, rfl, h2, rfl⟩
  have H2 := Lib.hid h2
  clear h2
  go_wp2_with fail
  refine (sameFloat_any _ _ _ (by rw [cn_widen, cn_widen, H1.out, H2.out])).mono ?_
  rintro e w1 ⟨rfl, n3, rfl⟩
  go_wp2
  go_ret
  exact ⟨rfl, below_drewN (Below.refl _ _) _⟩

/-! ### CheckOf -/
def ck (n : Int) (l : List UInt8) : Int := l.foldl (fun n c => (719 * n + (c.toNat : Int) + 53) % 65003) n
theorem ck_snoc (n : Int) (l : List UInt8) (c : UInt8) : ck n (l ++ [c]) = (719 * ck n l + (c.toNat : Int) + 53) % 65003 := by
  simp [ck, List.foldl_append]
theorem ck_bd (n : Int) (l : List UInt8) (h0 : 0 ≤ n) (h1 : n ≤ 65002) : 0 ≤ ck n l ∧ ck n l ≤ 65002 := by
  induction l generalizing n with
  | nil => exact ⟨h0, h1⟩
  | cons c l ih =>
    have h2 : 0 ≤ (719 * n + (c.toNat : Int) + 53) % 65003 := Int.emod_nonneg _ (by omega)
    have h3 : (719 * n + (c.toNat : Int) + 53) % 65003 < 65003 := Int.emod_lt_of_pos _ (by omega)
    have h4 := ih ((719 * n + (c.toNat : Int) + 53) % 65003) h2 (by omega)
    exact h4
theorem take_snoc (s : ByteArray) (k : Nat) (h : k < s.size) : s.data.toList.take (k + 1) = s.data.toList.take k ++ [s[k]] := by
  rw [List.take_succ_eq_append_getElem (by simpa using h)]; rfl
set_option maxHeartbeats 400000 in
theorem l01Check_any (n : Int) (s : ByteArray) (w : World) (h0 : 0 ≤ n) (h1 : n ≤ 65002) (hs : s.size ≤ 1048576) :
    Calls Try.prog 49 #[.int .i64 n, .string s] w fun e w' => e = .returned (.int .i64 (ck n s.data.toList)) ∧ w = w' := by
  go_enter Try.func49, Try.ntmps49
  go_wp2
  go_loop [0, 5] (fun t i => ∃ k : Nat, k ≤ s.size ∧ i = .int .i64 k ∧ t = .int .i64 (ck n (s.data.toList.take k))) (fun _ i => s.size - (intOf i).toNat)
  case atStart => exact ⟨0, Nat.zero_le _, rfl, rfl⟩
  case round =>
    obtain ⟨k, hk, rfl, rfl⟩ := hrel
    have hd := ck_bd n (s.data.toList.take k) h0 h1
    by_cases hlt : k < s.size
    · have hsn := ck_snoc n (s.data.toList.take k) s[k]
      have hts := take_snoc s k hlt
      have hc : (s[k].toNat : Int) < 256 := by have := s[k].toNat_lt; omega
      have HS : Hid (ck n (s.data.toList.take (k + 1)) = (719 * ck n (s.data.toList.take k) + (s[k].toNat : Int) + 53) % 65003) := by rw [hts]; exact hsn
      clear hsn hts
      go_wp2
      go_round
      case rel => exact ⟨k + 1, by omega, by go_num, by rw [HS.out]⟩
      case measure => simp [intOf]; omega
    · go_wp2
      go_ret
      exact ⟨ret_int (by rw [List.take_of_length_le (by simp; omega)]), rfl⟩
set_option maxHeartbeats 400000 in
theorem specCheck_yes (n : Int) (s : ByteArray) (w : World) (h0 : 0 ≤ n) (h1 : n ≤ 65002) (hs : s.size ≤ 1048576) :
    Calls Try.prog 19 #[.int .i64 n, .string s] w fun e w' => e = .returned (.tuple #[.int .i64 (ck n s.data.toList), .bool true]) ∧ w = w' := by
  have h := inB_yes h0 h1
  go_enter Try.func19, Try.ntmps19
  go_wp2_with (first | (go_at_call 42; refine (l00In_any _ _ _ _).mono ?_; rintro e w' ⟨rfl, rfl⟩) | (go_at_call 49; refine (l01Check_any _ _ _ h0 h1 hs).mono ?_; rintro e w' ⟨rfl, rfl⟩))
  go_ret2
  exact ⟨rfl, rfl⟩
set_option maxHeartbeats 400000 in
theorem specCheck_no (n : Int) (s : ByteArray) (w : World) (h : inB n 0 65002 = false) :
    Calls Try.prog 19 #[.int .i64 n, .string s] w fun e w' => e = .returned (.tuple #[.int .i64 0, .bool false]) ∧ w = w' := by
  go_enter Try.func19, Try.ntmps19
  go_wp2_with (go_at_call 42; refine (l00In_any _ _ _ _).mono ?_; rintro e w' ⟨rfl, rfl⟩)
  go_ret2
  exact ⟨rfl, rfl⟩
set_option maxHeartbeats 400000 in
theorem implCheck_no (n : Int) (s : ByteArray) (w : World) (h : inB n 0 65002 = false) :
    Calls Try.prog 20 #[.int .i64 n, .string s] w fun e w' => e = .returned (.tuple #[.int .i64 0, .bool false]) ∧ w = w' := by
  go_enter Try.func20, Try.ntmps20
  go_wp2_with (go_at_call 44; refine (within_any _ _ _ _).mono ?_; rintro e w' ⟨rfl, rfl⟩)
  go_ret2
  exact ⟨rfl, rfl⟩
set_option maxHeartbeats 400000 in
theorem implCheck_yes (n : Int) (s : ByteArray) (w : World) (h0 : 0 ≤ n) (h1 : n ≤ 65002) (hs : s.size ≤ 1048576) :
    Calls Try.prog 20 #[.int .i64 n, .string s] w fun e w' => e = .returned (.tuple #[.int .i64 (ck n s.data.toList), .bool true]) ∧ w = w' := by
  have h := inB_yes h0 h1
  go_enter Try.func20, Try.ntmps20
  go_wp2_with (go_at_call 44; refine (within_any _ _ _ _).mono ?_; rintro e w' ⟨rfl, rfl⟩)
  go_loop [0, 6, 12] (fun t _ i => ∃ k : Nat, k ≤ s.size ∧ i = .int .i64 k ∧ t = .int .i64 (ck n (s.data.toList.take k))) (fun _ _ i => s.size - (intOf i).toNat)
  case atStart => exact ⟨0, Nat.zero_le _, rfl, rfl⟩
  case round =>
    obtain ⟨k, hk, rfl, rfl⟩ := hrel
    have hd := ck_bd n (s.data.toList.take k) h0 h1
    by_cases hlt : k < s.size
    · have hsn := ck_snoc n (s.data.toList.take k) s[k]
      have hts := take_snoc s k hlt
      have hc : (s[k].toNat : Int) < 256 := by have := s[k].toNat_lt; omega
      have HS : Hid (ck n (s.data.toList.take (k + 1)) = (719 * ck n (s.data.toList.take k) + (s[k].toNat : Int) + 53) % 65003) := by rw [hts]; exact hsn
      clear hsn hts
      go_wp2
      go_round
      case rel => exact ⟨k + 1, by omega, by go_num, by rw [HS.out]⟩
      case measure => simp [intOf]; omega
    · go_wp2
      go_ret2
      exact ⟨congrArg (fun z : Int => Ending.returned (.tuple #[.int .i64 z, .bool true])) (by rw [List.take_of_length_le (by simp; omega)]), rfl⟩
set_option maxHeartbeats 400000 in
theorem fnExactCheckOf_walk (n : Int) (s : ByteArray) (_ : (Lit.int .i64 n).wf = true) (hm : s.size ≤ maxLen) (w : World) :
    Calls Try.prog 5 #[.int .i64 n, .string s] w fun e w' => e = .returned (.bool true) ∧ Below w.heap.size w w' := by
  unfold maxLen at hm
  by_cases hs : s.size ≤ 1048576
  · by_cases h : 0 ≤ n ∧ n ≤ 65002
    · obtain ⟨h0, h1⟩ := h
      go_enter Try.func5, Try.ntmps5
      go_wp2_with (first | (go_at_call 19; refine (specCheck_yes _ _ _ h0 h1 hs).mono ?_; rintro e w' ⟨rfl, rfl⟩) | (go_at_call 20; refine (implCheck_yes _ _ _ h0 h1 hs).mono ?_; rintro e w' ⟨rfl, rfl⟩))
      go_ret
      exact ⟨rfl, Below.refl _ _⟩
    · have hi : inB n 0 65002 = false := decide_eq_false h
      clear h
      go_enter Try.func5, Try.ntmps5
      go_wp2_with (first | (go_at_call 19; refine (specCheck_no _ _ _ hi).mono ?_; rintro e w' ⟨rfl, rfl⟩) | (go_at_call 20; refine (implCheck_no _ _ _ hi).mono ?_; rintro e w' ⟨rfl, rfl⟩))
      go_ret
      exact ⟨rfl, Below.refl _ _⟩
  · go_enter Try.func5, Try.ntmps5
    go_wp2_with fail
    go_ret
    exact ⟨rfl, Below.refl _ _⟩
end Go.Proofs.Ytgoeadbjnjkgjaa
