/-
  ReadDecimal: both sides walked.
-/
import Derived.Test.YtcbfefamemidnaaDoorD1
namespace Go.Proofs.YtcbfefamemidnaaDoor
open Go.RowKit Go.Lib
set_option linter.unusedVariables false
set_option linter.unusedSimpArgs false

def rdPost (l : List UInt8) (w : World) (e : Ending) (w' : World) : Prop := e = .returned (.tuple #[.int .i64 (rdN l), .bool (rdB l)]) ∧ Below w.heap.size w w'
theorem rd1 {l : List UInt8} {x : Int} (h : valD l = x) (hv : isV x = false) : rdB l = false ∧ rdN l = 0 := by
  have : rdB l = false := by unfold rdB; rw [h, hv]; rfl
  exact ⟨this, by unfold rdN; rw [this]; rfl⟩
theorem rd2 {l : List UInt8} {x : Int} (h : valD l = x) (hv : isV x = true) (he : itoa x = l) : rdB l = true ∧ rdN l = x := rd_of hv he
theorem rd3 {l : List UInt8} {x : Int} (h : valD l = x) (hv : isV x = true) (he : itoa x ≠ l) : rdB l = false ∧ rdN l = 0 := by
  have : rdB l = false := by unfold rdB; rw [h, hv, decide_eq_false he]; rfl
  exact ⟨this, by unfold rdN; rw [this]; rfl⟩
theorem ba_eq {l : List UInt8} {s : ByteArray} (h : l = s.data.toList) : (⟨l.toArray⟩ : ByteArray) = s := by subst h; rfl
theorem ba_bne {l : List UInt8} {s : ByteArray} (h : l ≠ s.data.toList) : (l == s.toList) = false := by
  rw [beq_eq_false_iff_ne, Go.ByteArray.toList_eq]; exact h
theorem rd_end {l : List UInt8} {w w' : World} {n : Int} {b : Bool} (h : rdB l = b ∧ rdN l = n) (hb : Below w.heap.size w w') : rdPost l w (.returned (.tuple #[.int .i64 n, .bool b])) w' := ⟨by rw [h.1, h.2], hb⟩

set_option maxHeartbeats 1000000 in
theorem in_yes (n : Int) (w : World) (h : isV n = true) :
    Calls Tryd.prog 64 #[.int .i64 n, .int .i64 (-1000000000000000), .int .i64 1000000000000000] w fun e w' => e = .returned (.bool true) ∧ w = w' := by
  have h1 := isV_iff.1 h
  obtain ⟨h1, h2⟩ := h1
  go_enter Tryd.func64, Tryd.ntmps64
  go_wp2
  go_ret
  exact ⟨rfl, rfl⟩
theorem isV_no {n : Int} (h : isV n = false) : n < -1000000000000000 ∨ 1000000000000000 < n := by
  have := of_decide_eq_false h; omega
set_option maxHeartbeats 1000000 in
theorem in_no (n : Int) (w : World) (h : isV n = false) :
    Calls Tryd.prog 64 #[.int .i64 n, .int .i64 (-1000000000000000), .int .i64 1000000000000000] w fun e w' => e = .returned (.bool false) ∧ w = w' := by
  rcases isV_no h with h1 | h1
  · go_enter Tryd.func64, Tryd.ntmps64
    go_wp2
    go_ret
    exact ⟨rfl, rfl⟩
  · have h2 : -1000000000000000 ≤ n := by omega
    have h3 : decide (n ≤ 1000000000000000) = false := decide_eq_false (by omega)
    go_enter Tryd.func64, Tryd.ntmps64
    go_wp2
    go_ret
    exact ⟨rfl, rfl⟩
set_option maxHeartbeats 1000000 in
theorem isValue_yes (n : Int) (w : World) (h : isV n = true) :
    Calls Tryd.prog 42 #[.int .i64 n] w fun e w' => e = .returned (.bool true) ∧ w = w' := by
  have h1 := isV_iff.1 h
  obtain ⟨h1, h2⟩ := h1
  go_enter Tryd.func42, Tryd.ntmps42
  go_wp2
  go_ret
  exact ⟨rfl, rfl⟩
set_option maxHeartbeats 1000000 in
theorem isValue_no (n : Int) (w : World) (h : isV n = false) :
    Calls Tryd.prog 42 #[.int .i64 n] w fun e w' => e = .returned (.bool false) ∧ w = w' := by
  rcases isV_no h with h1 | h1
  · go_enter Tryd.func42, Tryd.ntmps42
    go_wp2
    go_ret
    exact ⟨rfl, rfl⟩
  · have h2 : -1000000000000000 ≤ n := by omega
    have h3 : decide (n ≤ 1000000000000000) = false := decide_eq_false (by omega)
    go_enter Tryd.func42, Tryd.ntmps42
    go_wp2
    go_ret
    exact ⟨rfl, rfl⟩

def valRel (s : ByteArray) (n i : Value) : Prop := ∃ k : Nat, k ≤ s.size ∧ i = .int .i64 k ∧ n = .int .i64 (foldD (s.data.toList.take k) : Nat)
theorem fold_take (s : ByteArray) (k : Nat) (h : k < s.size) : foldD (s.data.toList.take (k + 1)) = if 48 ≤ s[k].toNat ∧ s[k].toNat ≤ 57 then 10 * foldD (s.data.toList.take k) + (s[k].toNat - 48) else foldD (s.data.toList.take k) := by
  rw [List.take_succ_eq_append_getElem (by simpa using h), foldD_snoc]
  rfl
theorem val_neg {s : ByteArray} (h : 0 < s.size) (h45 : s[0].toNat = 45) : valD s.data.toList = -((foldD s.data.toList : Nat) : Int) := by
  unfold valD
  rw [if_pos]
  rw [List.head?_eq_getElem?, List.getElem?_eq_getElem (by simpa using h)]
  exact congrArg some h45
theorem val_pos {s : ByteArray} (h : 0 < s.size) (h45 : ¬ s[0].toNat = 45) : valD s.data.toList = ((foldD s.data.toList : Nat) : Int) := by
  unfold valD
  rw [if_neg]
  rw [List.head?_eq_getElem?, List.getElem?_eq_getElem (by simpa using h)]
  intro e
  exact h45 (Option.some.inj e)
set_option maxHeartbeats 2000000 in
theorem specVal_any (s : ByteArray) (w : World) (hs : s.size ≤ 1048577) :
    Calls Tryd.prog 40 #[.string s] w (rdPost s.data.toList w) := by
  by_cases hlo : s.size < 1
  · have H := Lib.hid (rd_long (l := s.data.toList) (.inl (by simpa using hlo)))
    go_enter Tryd.func40, Tryd.ntmps40
    go_wp2
    go_ret2
    exact rd_end H.out (Below.refl _ _)
  by_cases hhi : 17 < s.size
  · have H := Lib.hid (rd_long (l := s.data.toList) (.inr (by simpa using hhi)))
    have hlo' : 1 ≤ s.size := by omega
    clear hlo
    go_enter Tryd.func40, Tryd.ntmps40
    go_wp2
    go_ret2
    exact rd_end H.out (Below.refl _ _)
  have h1 : 1 ≤ s.size := by omega
  have h17 : s.size ≤ 17 := by omega
  clear hlo hhi
  go_enter Tryd.func40, Tryd.ntmps40
  go_wp2
  go_loop [4, 5] (fun n i => valRel s n i) (fun _ i => s.size - (Go.RowKit.intOf i).toNat)
  case atStart => exact ⟨0, Nat.zero_le _, rfl, rfl⟩
  case round =>
    obtain ⟨k, hk, rfl, rfl⟩ := hrel
    by_cases hlt : k < s.size
    · have hf := fold_take s k hlt
      have hF : foldD (s.data.toList.take k) < 100000000000000000 := foldD_small (by simp; omega)
      generalize foldD (s.data.toList.take k) = F at *
      by_cases c1 : 48 ≤ (s[k].toNat : Int)
      · by_cases c2 : (s[k].toNat : Int) ≤ 57
        · rw [if_pos ⟨by omega, by omega⟩] at hf
          have HF := Lib.hid hf
          clear hf
          go_wp2
          go_round
          case rel => exact ⟨k + 1, by omega, by go_num, by rw [HF.out]; go_num⟩
          case measure => simp [Go.RowKit.intOf]; omega
        · rw [if_neg (by omega)] at hf
          have HF := Lib.hid hf
          clear hf
          go_wp2
          go_round
          case rel => exact ⟨k + 1, by omega, by go_num, by rw [HF.out]⟩
          case measure => simp [Go.RowKit.intOf]; omega
      · rw [if_neg (by omega)] at hf
        have HF := Lib.hid hf
        clear hf
        go_wp2
        go_round
        case rel => exact ⟨k + 1, by omega, by go_num, by rw [HF.out]⟩
        case measure => simp [Go.RowKit.intOf]; omega
    · obtain rfl : k = s.size := by omega
      rw [List.take_of_length_le (by simp)]
      have h0 : 0 < s.size := by omega
      have hF : foldD s.data.toList < 100000000000000000 := foldD_small (by simpa using h17)
      have HN : Hid (s[0].toNat = 45 → valD s.data.toList = -((foldD s.data.toList : Nat) : Int)) := val_neg h0
      have HP : Hid (¬ s[0].toNat = 45 → valD s.data.toList = ((foldD s.data.toList : Nat) : Int)) := val_pos h0
      generalize foldD s.data.toList = F at *
      clear hlt hk
      by_cases h45 : (s[0].toNat : Int) = 45
      · have HV : Hid (valD s.data.toList = (-(F : Int))) := HN.out (by omega)
        have hb : ((s[0].toNat : Int) == 45) = true := by rw [beq_iff_eq]; exact h45
        clear HN HP h45
        cases hv : isV (-(F : Int))
        · have HR := Lib.hid (rd1 HV.out hv)
          have HI := Lib.hid hv
          clear hv
          go_wp2_with (go_at_call 64; refine (in_no _ _ HI.out).mono ?_; rintro e w' ⟨rfl, rfl⟩)
          go_ret2
          exact rd_end HR.out (Below.refl _ _)
        · have hd := l01Dec_any (-(F : Int)) w (by omega) (by omega)
          by_cases he : itoa (-(F : Int)) = s.data.toList
          · have HR := Lib.hid (rd2 HV.out hv he)
            have HI := Lib.hid hv
            have HE := Lib.hid (ba_eq he)
            clear hv he
            go_wp2_with (first | (go_at_call 64; refine (in_yes _ _ HI.out).mono ?_; rintro e w' ⟨rfl, rfl⟩) | (go_at_call 38; refine hd.mono ?_; rintro e w' ⟨rfl, hb⟩; rw [HE.out]))
            go_ret2
            exact rd_end HR.out hb
          · have HR := Lib.hid (rd3 HV.out hv he)
            have HI := Lib.hid hv
            have hne := ba_bne he
            clear hv he
            go_wp2_with (first | (go_at_call 64; refine (in_yes _ _ HI.out).mono ?_; rintro e w' ⟨rfl, rfl⟩) | (go_at_call 38; refine hd.mono ?_; rintro e w' ⟨rfl, hb⟩))
            go_ret2
            exact rd_end HR.out hb
      · have HV : Hid (valD s.data.toList = (F : Int)) := HP.out (by omega)
        have hb : ((s[0].toNat : Int) == 45) = false := by rw [beq_eq_false_iff_ne]; exact h45
        clear HN HP h45
        cases hv : isV (F : Int)
        · have HR := Lib.hid (rd1 HV.out hv)
          have HI := Lib.hid hv
          clear hv
          go_wp2_with (go_at_call 64; refine (in_no _ _ HI.out).mono ?_; rintro e w' ⟨rfl, rfl⟩)
          go_ret2
          exact rd_end HR.out (Below.refl _ _)
        · have hd := l01Dec_any (F : Int) w (by omega) (by omega)
          by_cases he : itoa (F : Int) = s.data.toList
          · have HR := Lib.hid (rd2 HV.out hv he)
            have HI := Lib.hid hv
            have HE := Lib.hid (ba_eq he)
            clear hv he
            go_wp2_with (first | (go_at_call 64; refine (in_yes _ _ HI.out).mono ?_; rintro e w' ⟨rfl, rfl⟩) | (go_at_call 38; refine hd.mono ?_; rintro e w' ⟨rfl, hb⟩; rw [HE.out]))
            go_ret2
            exact rd_end HR.out hb
          · have HR := Lib.hid (rd3 HV.out hv he)
            have HI := Lib.hid hv
            have hne := ba_bne he
            clear hv he
            go_wp2_with (first | (go_at_call 64; refine (in_yes _ _ HI.out).mono ?_; rintro e w' ⟨rfl, rfl⟩) | (go_at_call 38; refine hd.mono ?_; rintro e w' ⟨rfl, hb⟩))
            go_ret2
            exact rd_end HR.out hb
theorem specRead_any (s : ByteArray) (w : World) (hs : s.size ≤ 1048577) :
    Calls Tryd.prog 13 #[.string s] w (rdPost s.data.toList w) := by
  have hc := specVal_any s w hs
  go_enter Tryd.func13, Tryd.ntmps13
  go_wp2_with (go_at_call 40; refine hc.mono ?_; rintro e w' ⟨rfl, hb⟩)
  go_ret2
  exact ⟨rfl, hb⟩
theorem end_cases (l : List UInt8) : (∃ v, parseIntB 64 l = .ok v) ∨ parseIntB 64 l = parseIntB 64 [] ∨ parseIntB 64 l = .range := by
  rcases parseIntB 64 l with v | _ | _
  · exact .inl ⟨v, rfl⟩
  · exact .inr (.inl rfl)
  · exact .inr (.inr rfl)
theorem bytes_or {w w' : World} {e : TypeId} (h : w' = w ∨ ∃ t, w' = bytesWorld w e t) : Below w.heap.size w w' := by
  rcases h with rfl | ⟨t, rfl⟩
  · exact Below.refl _ _
  · exact bytesWorld_below _ _ _
set_option maxHeartbeats 2000000 in
theorem implRead_any (s : ByteArray) (w : World) (hs : s.size ≤ 1048577) (hp : Pow w) (he : Errs w) :
    Calls Tryd.prog 14 #[.string s] w (rdPost s.data.toList w) := by
  rcases end_cases s.data.toList with ⟨v, h⟩ | h | h
  · have hc := Tryd.strconv_ParseInt_10_at64_ok s (by omega) v h w
    obtain ⟨k1, k2⟩ := rd_parse_ok h
    have HP := Lib.hid hp
    clear h he hp
    cases hv : isV v
    · rw [hv] at k1
      have HR : Hid (rdB s.data.toList = false ∧ rdN s.data.toList = 0) := by
        have e : rdB s.data.toList = false := k1
        exact ⟨e, by unfold rdN; rw [e]; rfl⟩
      have HI := Lib.hid hv
      clear hv k1 k2
      go_enter Tryd.func14, Tryd.ntmps14
      go_wp2_with (first | (go_at_call 41; refine hc.mono ?_; rintro e w1 ⟨rfl, hw⟩) | (go_at_call 42; refine (isValue_no _ _ HI.out).mono ?_; rintro e w2 ⟨rfl, rfl⟩))
      go_ret2
      exact rd_end HR.out (bytes_or hw)
    · have hb := isV_iff.1 hv
      have hd := fun w1 (h : Pow w1) => implDec_any v w1 (by omega) (by omega) h
      have HD := Lib.hid hd
      rw [hv] at k1 k2
      by_cases he : itoa v = s.data.toList
      · rw [decide_eq_true he] at k1 k2
        have HR : Hid (rdB s.data.toList = true ∧ rdN s.data.toList = v) := ⟨k1, k2 rfl⟩
        have HI := Lib.hid hv
        have HE := Lib.hid (ba_eq he)
        clear hv k1 k2 he hb hd
        go_enter Tryd.func14, Tryd.ntmps14
        go_wp2_with (first | (go_at_call 41; refine hc.mono ?_; rintro e w1 ⟨rfl, hw⟩; have hw1 := bytes_or hw; clear hw) | (go_at_call 42; refine (isValue_yes _ _ HI.out).mono ?_; rintro e w2 ⟨rfl, rfl⟩) | (go_at_call 12; refine (HD.out _ (HP.out.below hw1)).mono ?_; rintro e w3 ⟨rfl, hw3⟩; rw [HE.out]))
        go_ret2
        exact rd_end HR.out (hw1.trans (hw3.mono hw1.size))
      · rw [decide_eq_false he] at k1
        have HR : Hid (rdB s.data.toList = false ∧ rdN s.data.toList = 0) := by
          have e : rdB s.data.toList = false := k1
          exact ⟨e, by unfold rdN; rw [e]; rfl⟩
        have HI := Lib.hid hv
        have hne := ba_bne he
        clear hv k1 k2 he hb hd
        go_enter Tryd.func14, Tryd.ntmps14
        go_wp2_with (first | (go_at_call 41; refine hc.mono ?_; rintro e w1 ⟨rfl, hw⟩; have hw1 := bytes_or hw; clear hw) | (go_at_call 42; refine (isValue_yes _ _ HI.out).mono ?_; rintro e w2 ⟨rfl, rfl⟩) | (go_at_call 12; refine (HD.out _ (HP.out.below hw1)).mono ?_; rintro e w3 ⟨rfl, hw3⟩))
        go_ret2
        exact rd_end HR.out (hw1.trans (hw3.mono hw1.size))
  · have HR : Hid (rdB s.data.toList = false ∧ rdN s.data.toList = 0) := rd_parse_no fun v e => by rw [h] at e; cases e
    obtain ⟨⟨tp, p, hv⟩, -⟩ := he
    have hc := Tryd.strconv_ParseInt_10_at64_syntax_var s (by omega) h tp p w hv
    clear h hv
    go_enter Tryd.func14, Tryd.ntmps14
    go_wp2_with (go_at_call 41; refine hc.mono ?_; rintro e w1 ⟨N, rfl, -, -, hb⟩)
    go_ret2
    exact rd_end HR.out hb
  · have HR : Hid (rdB s.data.toList = false ∧ rdN s.data.toList = 0) := rd_parse_no fun v e => by rw [h] at e; cases e
    obtain ⟨-, tp, p, hv⟩ := he
    have hc := Tryd.strconv_ParseInt_10_at64_range_var s (by omega) h tp p w hv
    clear h hv
    go_enter Tryd.func14, Tryd.ntmps14
    go_wp2_with (go_at_call 41; refine hc.mono ?_; rintro e w1 ⟨N, rfl, -, -, hb⟩)
    go_ret2
    exact rd_end HR.out hb
set_option maxHeartbeats 1000000 in
theorem fnExactReadDecimal_walk (s : ByteArray) (w : World) (hm : s.size ≤ maxLen) (hL : laidMet Tryd.prog Rows.fnExactReadDecimalRow.laid w) :
    Calls Tryd.prog 4 #[.string s] w fun e w' => e = .returned (.bool true) ∧ Below w.heap.size w w' := by
  unfold maxLen at hm
  by_cases hs : s.size ≤ 1048576
  · have HP := Lib.hid (pow_rd hL)
    have HE := Lib.hid (errs_rd hL)
    have hc := specRead_any s w (by omega)
    have HD := Lib.hid (fun w1 h1 h2 => implRead_any s w1 (by omega) h1 h2)
    clear hL
    go_enter Tryd.func4, Tryd.ntmps4
    go_wp2_with (first
      | (go_at_call 13; refine hc.mono ?_; rintro e w1 ⟨rfl, hb⟩)
      | (go_at_call 14; refine (HD.out _ (HP.out.below hb) (HE.out.below hb)).mono ?_; rintro e w2 ⟨rfl, hb2⟩))
    go_ret
    exact ⟨rfl, hb.trans (hb2.mono hb.size)⟩
  · clear hL
    go_enter Tryd.func4, Tryd.ntmps4
    go_wp2_with fail
    go_ret
    exact ⟨rfl, Below.refl _ _⟩
end Go.Proofs.YtcbfefamemidnaaDoor
