/-
  Sums of 32-bit floats, and of their products: both sides, walked; the laws of SumNumbers, TotalOf, DotNumbers.
-/
import Derived.Test.YtgoeadbjnjkgjaaSl
import Derived.StillTailTactics
namespace Go.Proofs.Ytgoeadbjnjkgjaa
open Go.RowKit
set_option linter.unusedVariables false

/-- The sum from left to right, every NaN told as one. -/
def sumC (l : List Nat) : Nat := l.foldl (fun s x => fo .add .f32 s (cn .f32 x)) 0
theorem sumC_snoc (l : List Nat) (x : Nat) : sumC (l ++ [x]) = fo .add .f32 (sumC l) (cn .f32 x) := by simp [sumC, List.foldl_append]
theorem take_succ_getD (l : List Nat) (k : Nat) (h : k < l.length) : l.take (k + 1) = l.take k ++ [l.getD k 0] := by
  rw [List.take_succ_eq_append_getElem h]
  simp [List.getD, h]
/-- The sum of the products. -/
def dotC (l m : List Nat) : Nat := (l.zip m).foldl (fun s p => fo .add .f32 s (fo .mul .f32 (cn .f32 p.1) (cn .f32 p.2))) 0
theorem dotC_snoc (l m : List Nat) (k : Nat) (h : k < l.length) (h' : k < m.length) : dotC (l.take (k + 1)) (m.take (k + 1)) = fo .add .f32 (dotC (l.take k) (m.take k)) (fo .mul .f32 (cn .f32 (l.getD k 0)) (cn .f32 (m.getD k 0))) := by
  rw [take_succ_getD l k h, take_succ_getD m k h']
  unfold dotC
  rw [List.zip_append (by simp; omega)]
  simp [List.foldl_append]
theorem cn_zero32 : cn .f32 0 = 0 := by decide +kernel
theorem drewN_nil (w : World) : ∃ n, w = w.drewN n := ⟨0, rfl⟩

set_option maxHeartbeats 400000 in
theorem l01Sum_any (a : Option Addr) (len cap : Nat) (xs : List Nat) (w : World) (hr : IsRow mkF w a len cap xs) (hl : len ≤ 1048576) :
    Calls Try.prog 55 #[.slice a len cap] w fun e w' => ∃ b n, e = .returned (.float .f32 b) ∧ cn .f32 b = sumC xs ∧ w' = w.drewN n := by
  obtain ⟨h1, h2, h3, h4⟩ := hr
  go_enter Try.func55, Try.ntmps55
  go_wp2
  go_loopw [3, 4] (fun t i wr => ∃ k : Nat, k ≤ len ∧ i = .int .i64 k ∧ (∃ b, t = .float .f32 b ∧ cn .f32 b = sumC (xs.take k)) ∧ ∃ n, wr = w.drewN n) (fun _ i _ => len - (intOf i).toNat)
  case atStart => exact ⟨0, Nat.zero_le _, rfl, ⟨0, rfl, by rw [cn_zero32]; rfl⟩, drewN_nil _⟩
  case round =>
    obtain ⟨k, hk, rfl, ⟨s, rfl, hs⟩, n, hwr⟩ := hrel
    have HS := Lib.hid hs
    have hcw : ∀ p, wr.cell? p = w.cell? p := by intro p; rw [hwr]; rfl
    have HW := Lib.hid hwr
    clear hs hwr
    by_cases hlt : k < len
    · rcases h4 with h4 | ⟨g, off, rfl, hgl, hcx⟩
      · exfalso; rw [h4] at h1; simp at h1; omega
      have hc1 : wr.cell? ⟨g, off + k, none⟩ = some (.float .f32 (xs.getD k 0)) := by rw [hcw]; exact hcx k hlt
      have ht := take_succ_getD xs k (by omega)
      have HT : Hid (sumC (xs.take (k + 1)) = fo .add .f32 (sumC (xs.take k)) (cn .f32 (xs.getD k 0))) := by rw [ht, sumC_snoc]; exact rfl
      clear hcx hcw ht h1
      generalize xs.getD k 0 = x at *
      go_wp2
      go_roundw
      case rel => exact ⟨k + 1, by omega, by go_num, ⟨_, rfl, by rw [cn_fv, HS.out, HT.out]⟩, by rw [HW.out]; exact ⟨_, World.drewN_drewN _ _ _⟩⟩
      case measure => simp [intOf]; omega
    · obtain rfl : k = len := by omega
      have HE : Hid (xs.take k = xs) := List.take_of_length_le (by omega)
      clear h1 h4 hcw
      go_wp2
      go_ret
      exact ⟨_, _, rfl, by rw [HS.out, HE.out], HW.out⟩

set_option maxHeartbeats 400000 in
theorem implSum_any (a : Option Addr) (len cap : Nat) (xs : List Nat) (w : World) (hr : IsRow mkF w a len cap xs) (hl : len ≤ 1048576) :
    Calls Try.prog 57 #[.slice a len cap] w fun e w' => ∃ b n, e = .returned (.float .f32 b) ∧ cn .f32 b = sumC xs ∧ w' = w.drewN n := by
  obtain ⟨h1, h2, h3, h4⟩ := hr
  go_enter Try.func57, Try.ntmps57
  go_wp2
  go_loopw [3, 5, 8] (fun t _ i wr => ∃ k : Nat, k ≤ len ∧ i = .int .i64 k ∧ (∃ b, t = .float .f32 b ∧ cn .f32 b = sumC (xs.take k)) ∧ ∃ n, wr = w.drewN n) (fun _ _ i _ => len - (intOf i).toNat)
  case atStart => exact ⟨0, Nat.zero_le _, rfl, ⟨0, rfl, by rw [cn_zero32]; rfl⟩, drewN_nil _⟩
  case round =>
    obtain ⟨k, hk, rfl, ⟨s, rfl, hs⟩, n, hwr⟩ := hrel
    have HS := Lib.hid hs
    have hcw : ∀ p, wr.cell? p = w.cell? p := by intro p; rw [hwr]; rfl
    have HW := Lib.hid hwr
    clear hs hwr
    by_cases hlt : k < len
    · rcases h4 with h4 | ⟨g, off, rfl, hgl, hcx⟩
      · exfalso; rw [h4] at h1; simp at h1; omega
      have hc1 : wr.cell? ⟨g, off + k, none⟩ = some (.float .f32 (xs.getD k 0)) := by rw [hcw]; exact hcx k hlt
      have ht := take_succ_getD xs k (by omega)
      have HT : Hid (sumC (xs.take (k + 1)) = fo .add .f32 (sumC (xs.take k)) (cn .f32 (xs.getD k 0))) := by rw [ht, sumC_snoc]; exact rfl
      clear hcx hcw ht h1
      generalize xs.getD k 0 = x at *
      go_wp2
      go_roundw
      case rel => exact ⟨k + 1, by omega, by go_num, ⟨_, rfl, by rw [cn_fv, HS.out, HT.out]⟩, by rw [HW.out]; exact ⟨_, World.drewN_drewN _ _ _⟩⟩
      case measure => simp [intOf]; omega
    · obtain rfl : k = len := by omega
      have HE : Hid (xs.take k = xs) := List.take_of_length_le (by omega)
      clear h1 h4 hcw
      go_wp2
      go_ret
      exact ⟨_, _, rfl, by rw [HS.out, HE.out], HW.out⟩

set_option maxHeartbeats 400000 in
theorem l02Total_any (a : Option Addr) (len cap : Nat) (xs : List Nat) (w : World) (hr : IsRow mkF w a len cap xs) (hl : len ≤ 1048576) :
    Calls Try.prog 58 #[.slice a len cap] w fun e w' => ∃ b n, e = .returned (.float .f32 b) ∧ cn .f32 b = sumC xs ∧ w' = w.drewN n := by
  obtain ⟨h1, h2, h3, h4⟩ := hr
  go_enter Try.func58, Try.ntmps58
  go_wp2
  go_loopw [3, 4] (fun t i wr => ∃ k : Nat, k ≤ len ∧ i = .int .i64 k ∧ (∃ b, t = .float .f32 b ∧ cn .f32 b = sumC (xs.take k)) ∧ ∃ n, wr = w.drewN n) (fun _ i _ => len - (intOf i).toNat)
  case atStart => exact ⟨0, Nat.zero_le _, rfl, ⟨0, rfl, by rw [cn_zero32]; rfl⟩, drewN_nil _⟩
  case round =>
    obtain ⟨k, hk, rfl, ⟨s, rfl, hs⟩, n, hwr⟩ := hrel
    have HS := Lib.hid hs
    have hcw : ∀ p, wr.cell? p = w.cell? p := by intro p; rw [hwr]; rfl
    have HW := Lib.hid hwr
    clear hs hwr
    by_cases hlt : k < len
    · rcases h4 with h4 | ⟨g, off, rfl, hgl, hcx⟩
      · exfalso; rw [h4] at h1; simp at h1; omega
      have hc1 : wr.cell? ⟨g, off + k, none⟩ = some (.float .f32 (xs.getD k 0)) := by rw [hcw]; exact hcx k hlt
      have ht := take_succ_getD xs k (by omega)
      have HT : Hid (sumC (xs.take (k + 1)) = fo .add .f32 (sumC (xs.take k)) (cn .f32 (xs.getD k 0))) := by rw [ht, sumC_snoc]; exact rfl
      clear hcx hcw ht h1
      generalize xs.getD k 0 = x at *
      go_wp2
      go_roundw
      case rel => exact ⟨k + 1, by omega, by go_num, ⟨_, rfl, by rw [cn_fv, HS.out, HT.out]⟩, by rw [HW.out]; exact ⟨_, World.drewN_drewN _ _ _⟩⟩
      case measure => simp [intOf]; omega
    · obtain rfl : k = len := by omega
      have HE : Hid (xs.take k = xs) := List.take_of_length_le (by omega)
      clear h1 h4 hcw
      go_wp2
      go_ret
      exact ⟨_, _, rfl, by rw [HS.out, HE.out], HW.out⟩

set_option maxHeartbeats 400000 in
theorem specSum_yes (a : Option Addr) (len cap : Nat) (xs : List Nat) (w : World) (hr : IsRow mkF w a len cap xs) (hl : len ≤ 1048576) (hf : len ≤ 256) :
    Calls Try.prog 26 #[.slice a len cap] w fun e w' => ∃ b n, e = .returned (.tuple #[.float .f32 b, .bool true]) ∧ cn .f32 b = sumC xs ∧ w' = w.drewN n := by
  have HR := Lib.hid hr
  have hd : decide ((len : Int) ≤ 256) = true := decide_eq_true (by omega)
  have hg : decide ((256 : Int) < (len : Int)) = false := decide_eq_false (by omega)
  clear hr hf
  go_enter Try.func26, Try.ntmps26
  go_wp2_with (first | (go_at_call 54; go_in) | (go_at_call 55; refine (l01Sum_any _ _ _ _ _ HR.out hl).mono ?_; rintro e w' ⟨b, n, rfl, hb, rfl⟩; have HB := Lib.hid hb; clear hb))
  go_ret2
  exact ⟨_, _, rfl, HB.out, rfl⟩
set_option maxHeartbeats 400000 in
theorem specSum_no (a : Option Addr) (len cap : Nat) (w : World) (hl : len ≤ 1048576) (hf : ¬ len ≤ 256) :
    Calls Try.prog 26 #[.slice a len cap] w fun e w' => e = .returned (.tuple #[.float .f32 0, .bool false]) ∧ w = w' := by
  have hd : decide ((len : Int) ≤ 256) = false := decide_eq_false (by omega)
  have hg : decide ((256 : Int) < (len : Int)) = true := decide_eq_true (by omega)
  clear hf
  go_enter Try.func26, Try.ntmps26
  go_wp2
  go_ret2
  exact ⟨rfl, rfl⟩

set_option maxHeartbeats 400000 in
theorem implSumN_yes (a : Option Addr) (len cap : Nat) (xs : List Nat) (w : World) (hr : IsRow mkF w a len cap xs) (hl : len ≤ 1048576) (hf : len ≤ 256) :
    Calls Try.prog 27 #[.slice a len cap] w fun e w' => ∃ b n, e = .returned (.tuple #[.float .f32 b, .bool true]) ∧ cn .f32 b = sumC xs ∧ w' = w.drewN n := by
  have HR := Lib.hid hr
  have hd : decide ((len : Int) ≤ 256) = true := decide_eq_true (by omega)
  have hg : decide ((256 : Int) < (len : Int)) = false := decide_eq_false (by omega)
  clear hr hf
  go_enter Try.func27, Try.ntmps27
  go_wp2_with (first | (go_at_call 56; go_in) | (go_at_call 57; refine (implSum_any _ _ _ _ _ HR.out hl).mono ?_; rintro e w' ⟨b, n, rfl, hb, rfl⟩; have HB := Lib.hid hb; clear hb))
  go_ret2
  exact ⟨_, _, rfl, HB.out, rfl⟩
set_option maxHeartbeats 400000 in
theorem implSumN_no (a : Option Addr) (len cap : Nat) (w : World) (hl : len ≤ 1048576) (hf : ¬ len ≤ 256) :
    Calls Try.prog 27 #[.slice a len cap] w fun e w' => e = .returned (.tuple #[.float .f32 0, .bool false]) ∧ w = w' := by
  have hd : decide ((len : Int) ≤ 256) = false := decide_eq_false (by omega)
  have hg : decide ((256 : Int) < (len : Int)) = true := decide_eq_true (by omega)
  clear hf
  go_enter Try.func27, Try.ntmps27
  go_wp2
  go_ret2
  exact ⟨rfl, rfl⟩

set_option maxHeartbeats 400000 in
theorem specTotal_yes (a : Option Addr) (len cap : Nat) (xs : List Nat) (w : World) (hr : IsRow mkF w a len cap xs) (hl : len ≤ 1048576) (hf : len ≤ 256) :
    Calls Try.prog 28 #[.slice a len cap] w fun e w' => ∃ b n, e = .returned (.tuple #[.float .f32 b, .bool true]) ∧ cn .f32 b = sumC xs ∧ w' = w.drewN n := by
  have HR := Lib.hid hr
  have hd : decide ((len : Int) ≤ 256) = true := decide_eq_true (by omega)
  have hg : decide ((256 : Int) < (len : Int)) = false := decide_eq_false (by omega)
  clear hr hf
  go_enter Try.func28, Try.ntmps28
  go_wp2_with (first | (go_at_call 58; refine (l02Total_any _ _ _ _ _ HR.out hl).mono ?_; rintro e w' ⟨b, n, rfl, hb, rfl⟩; have HB := Lib.hid hb; clear hb))
  go_ret2
  exact ⟨_, _, rfl, HB.out, rfl⟩
set_option maxHeartbeats 400000 in
theorem specTotal_no (a : Option Addr) (len cap : Nat) (w : World) (hl : len ≤ 1048576) (hf : ¬ len ≤ 256) :
    Calls Try.prog 28 #[.slice a len cap] w fun e w' => e = .returned (.tuple #[.float .f32 0, .bool false]) ∧ w = w' := by
  have hd : decide ((len : Int) ≤ 256) = false := decide_eq_false (by omega)
  have hg : decide ((256 : Int) < (len : Int)) = true := decide_eq_true (by omega)
  clear hf
  go_enter Try.func28, Try.ntmps28
  go_wp2
  go_ret2
  exact ⟨rfl, rfl⟩

set_option maxHeartbeats 400000 in
theorem implTotal_yes (a : Option Addr) (len cap : Nat) (xs : List Nat) (w : World) (hr : IsRow mkF w a len cap xs) (hl : len ≤ 1048576) (hf : len ≤ 256) :
    Calls Try.prog 29 #[.slice a len cap] w fun e w' => ∃ b n, e = .returned (.tuple #[.float .f32 b, .bool true]) ∧ cn .f32 b = sumC xs ∧ w' = w.drewN n := by
  have HR := Lib.hid hr
  have hd : decide ((len : Int) ≤ 256) = true := decide_eq_true (by omega)
  have hg : decide ((256 : Int) < (len : Int)) = false := decide_eq_false (by omega)
  clear hr hf
  go_enter Try.func29, Try.ntmps29
  go_wp2_with (first | (go_at_call 27; go_in) | (go_at_call 56; go_in) | (go_at_call 57; refine (implSum_any _ _ _ _ _ HR.out hl).mono ?_; rintro e w' ⟨b, n, rfl, hb, rfl⟩; have HB := Lib.hid hb; clear hb))
  go_ret2
  exact ⟨_, _, rfl, HB.out, rfl⟩
set_option maxHeartbeats 400000 in
theorem implTotal_no (a : Option Addr) (len cap : Nat) (w : World) (hl : len ≤ 1048576) (hf : ¬ len ≤ 256) :
    Calls Try.prog 29 #[.slice a len cap] w fun e w' => e = .returned (.tuple #[.float .f32 0, .bool false]) ∧ w = w' := by
  have hd : decide ((len : Int) ≤ 256) = false := decide_eq_false (by omega)
  have hg : decide ((256 : Int) < (len : Int)) = true := decide_eq_true (by omega)
  clear hf
  go_enter Try.func29, Try.ntmps29
  go_wp2
  go_ret2
  exact ⟨rfl, rfl⟩

/-! ### Dots -/
set_option maxHeartbeats 1000000 in
theorem l01Dot_any (a b : Option Addr) (len cap cap' : Nat) (xs ys : List Nat) (w : World) (hr : IsRow mkF w a len cap xs) (hr' : IsRow mkF w b len cap' ys) (hl : len ≤ 1048576) :
    Calls Try.prog 59 #[.slice a len cap, .slice b len cap'] w fun e w' => ∃ b n, e = .returned (.float .f32 b) ∧ cn .f32 b = dotC xs ys ∧ w' = w.drewN n := by
  obtain ⟨h1, h2, h3, h4⟩ := hr
  obtain ⟨h1', h2', h3', h4'⟩ := hr'
  go_enter Try.func59, Try.ntmps59
  go_wp2
  go_loopw [5, 6] (fun t i wr => ∃ k : Nat, k ≤ len ∧ i = .int .i64 k ∧ (∃ b, t = .float .f32 b ∧ cn .f32 b = dotC (xs.take k) (ys.take k)) ∧ ∃ n, wr = w.drewN n) (fun _ i _ => len - (intOf i).toNat)
  case atStart => exact ⟨0, Nat.zero_le _, rfl, ⟨0, rfl, by rw [cn_zero32]; rfl⟩, drewN_nil _⟩
  case round =>
    obtain ⟨k, hk, rfl, ⟨s, rfl, hs⟩, n, hwr⟩ := hrel
    have HS := Lib.hid hs
    have hcw : ∀ p, wr.cell? p = w.cell? p := by intro p; rw [hwr]; rfl
    have HW := Lib.hid hwr
    clear hs hwr
    by_cases hlt : k < len
    · rcases h4 with h4 | ⟨g, off, rfl, hgl, hcx⟩
      · exfalso; rw [h4] at h1; simp at h1; omega
      rcases h4' with h4' | ⟨g', off', rfl, hgl', hcy⟩
      · exfalso; rw [h4'] at h1'; simp at h1'; omega
      have hc1 : wr.cell? ⟨g, off + k, none⟩ = some (.float .f32 (xs.getD k 0)) := by rw [hcw]; exact hcx k hlt
      have hc2 : wr.cell? ⟨g', off' + k, none⟩ = some (.float .f32 (ys.getD k 0)) := by rw [hcw]; exact hcy k hlt
      have HT : Hid (dotC (xs.take (k + 1)) (ys.take (k + 1)) = fo .add .f32 (dotC (xs.take k) (ys.take k)) (fo .mul .f32 (cn .f32 (xs.getD k 0)) (cn .f32 (ys.getD k 0)))) := dotC_snoc xs ys k (by omega) (by omega)
      clear hcx hcy hcw h1 h1'
      generalize xs.getD k 0 = x at *
      generalize ys.getD k 0 = y at *
      go_wp2_with fail
      go_region
      all_goals
        go_wp2
        go_roundw
        case rel =>
          refine ⟨k + 1, by omega, by go_num, ⟨_, rfl, by rw [cn_fv, cn_fv, HS.out, HT.out]⟩, ?_⟩
          rw [HW.out]
          simp only [World.drewN_drewN]
          exact ⟨_, rfl⟩
        case measure => simp [intOf]; omega
    · obtain rfl : k = len := by omega
      have HE : Hid (xs.take k = xs) := List.take_of_length_le (by omega)
      have HE' : Hid (ys.take k = ys) := List.take_of_length_le (by omega)
      clear h1 h4 h1' h4' hcw
      go_wp2
      go_ret
      exact ⟨_, _, rfl, by rw [HS.out, HE.out, HE'.out], HW.out⟩

set_option maxHeartbeats 400000 in
theorem specDot_no (a b : Option Addr) (len cap len' cap' : Nat) (w : World) (hl : len ≤ 1048576) (hl' : len' ≤ 1048576) (hf : ¬ (len ≤ 256 ∧ len = len')) :
    Calls Try.prog 30 #[.slice a len cap, .slice b len' cap'] w fun e w' => e = .returned (.tuple #[.float .f32 0, .bool false]) ∧ w = w' := by
  by_cases h : len ≤ 256
  · have hd : decide ((len : Int) ≤ 256) = true := decide_eq_true (by omega)
    have hne : ((len : Int) != (len' : Int)) = true := by rw [bne_iff_ne]; omega
    clear hf h
    go_enter Try.func30, Try.ntmps30
    go_wp2
    go_ret2
    exact ⟨rfl, rfl⟩
  · have hd : decide ((len : Int) ≤ 256) = false := decide_eq_false (by omega)
    clear hf h
    go_enter Try.func30, Try.ntmps30
    go_wp2
    go_ret2
    exact ⟨rfl, rfl⟩

set_option maxHeartbeats 400000 in
theorem implDot_no (a b : Option Addr) (len cap len' cap' : Nat) (w : World) (hl : len ≤ 1048576) (hl' : len' ≤ 1048576) (hf : ¬ (len ≤ 256 ∧ len = len')) :
    Calls Try.prog 31 #[.slice a len cap, .slice b len' cap'] w fun e w' => e = .returned (.tuple #[.float .f32 0, .bool false]) ∧ w = w' := by
  by_cases h : len ≤ 256
  · have hd : decide ((len : Int) ≤ 256) = true := decide_eq_true (by omega)
    have hne : ((len : Int) != (len' : Int)) = true := by rw [bne_iff_ne]; omega
    clear hf h
    go_enter Try.func31, Try.ntmps31
    go_wp2
    go_ret2
    exact ⟨rfl, rfl⟩
  · have hd : decide ((len : Int) ≤ 256) = false := decide_eq_false (by omega)
    clear hf h
    go_enter Try.func31, Try.ntmps31
    go_wp2
    go_ret2
    exact ⟨rfl, rfl⟩

set_option maxHeartbeats 400000 in
theorem specDot_yes (a b : Option Addr) (len cap cap' : Nat) (xs ys : List Nat) (w : World) (hr : IsRow mkF w a len cap xs) (hr' : IsRow mkF w b len cap' ys) (hf : len ≤ 256) :
    Calls Try.prog 30 #[.slice a len cap, .slice b len cap'] w fun e w' => ∃ b n, e = .returned (.tuple #[.float .f32 b, .bool true]) ∧ cn .f32 b = dotC xs ys ∧ w' = w.drewN n := by
  have hd : decide ((len : Int) ≤ 256) = true := decide_eq_true (by omega)
  have hl : len ≤ 1048576 := by omega
  have HR := Lib.hid hr
  have HR' := Lib.hid hr'
  clear hr hr' hf
  go_enter Try.func30, Try.ntmps30
  go_wp2_with (first | (go_at_call 54; go_in) | (go_at_call 59; refine (l01Dot_any _ _ _ _ _ _ _ _ HR.out HR'.out hl).mono ?_; rintro e w' ⟨b, n, rfl, hb, rfl⟩; have HB := Lib.hid hb; clear hb))
  go_ret2
  exact ⟨_, _, rfl, HB.out, rfl⟩

set_option maxHeartbeats 400000 in
theorem implDot_yes (a b : Option Addr) (len cap cap' : Nat) (xs ys : List Nat) (w : World) (hr : IsRow mkF w a len cap xs) (hr' : IsRow mkF w b len cap' ys) (hf : len ≤ 256) :
    Calls Try.prog 31 #[.slice a len cap, .slice b len cap'] w fun e w' => ∃ b n, e = .returned (.tuple #[.float .f32 b, .bool true]) ∧ cn .f32 b = dotC xs ys ∧ w' = w.drewN n := by
  have hd : decide ((len : Int) ≤ 256) = true := decide_eq_true (by omega)
  have hl : len ≤ 1048576 := by omega
  obtain ⟨h1, h2, h3, h4⟩ := hr
  obtain ⟨h1', h2', h3', h4'⟩ := hr'
  go_enter Try.func31, Try.ntmps31
  go_wp2_with (first | (go_at_call 56; go_in))
  go_loopw [6, 7, 8, 21] (fun t _ _ i wr => ∃ k : Nat, k ≤ len ∧ i = .int .i64 k ∧ (∃ b, t = .float .f32 b ∧ cn .f32 b = dotC (xs.take k) (ys.take k)) ∧ ∃ n, wr = w.drewN n) (fun _ _ _ i _ => len - (intOf i).toNat)
  case atStart => exact ⟨0, Nat.zero_le _, rfl, ⟨0, rfl, by rw [cn_zero32]; rfl⟩, drewN_nil _⟩
  case round =>
    obtain ⟨k, hk, rfl, ⟨s, rfl, hs⟩, n, hwr⟩ := hrel
    have HS := Lib.hid hs
    have hcw : ∀ p, wr.cell? p = w.cell? p := by intro p; rw [hwr]; rfl
    have HW := Lib.hid hwr
    clear hs hwr
    by_cases hlt : k < len
    · rcases h4 with h4 | ⟨g, off, rfl, hgl, hcx⟩
      · exfalso; rw [h4] at h1; simp at h1; omega
      rcases h4' with h4' | ⟨g', off', rfl, hgl', hcy⟩
      · exfalso; rw [h4'] at h1'; simp at h1'; omega
      have hc1 : wr.cell? ⟨g, off + k, none⟩ = some (.float .f32 (xs.getD k 0)) := by rw [hcw]; exact hcx k hlt
      have hc2 : wr.cell? ⟨g', off' + k, none⟩ = some (.float .f32 (ys.getD k 0)) := by rw [hcw]; exact hcy k hlt
      have HT : Hid (dotC (xs.take (k + 1)) (ys.take (k + 1)) = fo .add .f32 (dotC (xs.take k) (ys.take k)) (fo .mul .f32 (cn .f32 (xs.getD k 0)) (cn .f32 (ys.getD k 0)))) := dotC_snoc xs ys k (by omega) (by omega)
      clear hcx hcy hcw h1 h1'
      generalize xs.getD k 0 = x at *
      generalize ys.getD k 0 = y at *
      go_wp2
      go_roundw
      case rel =>
        refine ⟨k + 1, by omega, by go_num, ⟨_, rfl, by rw [cn_fv, cn_fv, HS.out, HT.out]⟩, ?_⟩
        rw [HW.out]
        simp only [World.drewN_drewN]
        exact ⟨_, rfl⟩
      case measure => simp [intOf]; omega
    · obtain rfl : k = len := by omega
      have HE : Hid (xs.take k = xs) := List.take_of_length_le (by omega)
      have HE' : Hid (ys.take k = ys) := List.take_of_length_le (by omega)
      clear h1 h4 h1' h4' hcw
      go_wp2
      go_ret2
      exact ⟨_, _, rfl, by rw [HS.out, HE.out, HE'.out], HW.out⟩

end Go.Proofs.Ytgoeadbjnjkgjaa
