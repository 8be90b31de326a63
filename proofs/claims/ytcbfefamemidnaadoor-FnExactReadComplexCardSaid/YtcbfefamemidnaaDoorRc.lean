/-
  ReadComplex: the reference's side.
-/
import Derived.Test.YtcbfefamemidnaaDoorRlC
namespace Go.Proofs.YtcbfefamemidnaaDoor
open Go.RowKit Go.Lib
set_option linter.unusedVariables false
set_option linter.unusedSimpArgs false

theorem from_any (n : Nat) (w : World) (h : n < 4294967296) : Calls Tryd.prog 80 #[.int .i64 (n : Int)] w fun e w' => e = .returned (.float .f32 n) ∧ w = w' := by
  have hI : (n : Int) ≤ 4294967295 := by omega
  clear h
  go_enter Tryd.func80, Tryd.ntmps80
  go_wp2
  go_ret
  exact ⟨rfl, rfl⟩
theorem fdB_len {l : List UInt8} (h : l.length ≠ 8) : fdB l = false := by unfold fdB; rw [decide_eq_false h]; rfl
theorem fdB_none {l : List UInt8} (h : hread l 0 = none) : fdB l = false := by unfold fdB; rw [h, Bool.and_false]
theorem fdB_some {l : List UInt8} {n : Nat} (h1 : l.length = 8) (h : hread l 0 = some n) : fdB l = decide (cn .f32 n = n) ∧ fdN l = n := by
  unfold fdB fdN
  rw [h, decide_eq_true h1]
  exact ⟨rfl, rfl⟩
theorem hread_none {l : List UInt8} {j n : Nat} (hj : j < l.length) (h : hv l[j] = none) (he : hread l 0 = hread (l.drop j) n) : hread l 0 = none := by
  rw [he, List.drop_eq_getElem_cons hj, hread, h]
theorem hread_step {l : List UInt8} {j n d : Nat} (hj : j < l.length) (h : hv l[j] = some d) (he : hread l 0 = hread (l.drop j) n) : hread l 0 = hread (l.drop (j + 1)) (16 * n + d) := by
  rw [he, List.drop_eq_getElem_cons hj, hread, h]
def inRel (S : ByteArray) (vn vk : Value) : Prop := ∃ j N : Nat, j ≤ 8 ∧ vk = .int .i64 j ∧ vn = .int .i64 N ∧ hread S.data.toList 0 = hread (S.data.toList.drop j) N ∧ N < 16 ^ j
theorem pow_8 {j : Nat} (h : j < 8) : 16 ^ j ≤ 268435456 := by
  have : 16 ^ j ≤ 16 ^ 7 := Nat.pow_le_pow_right (by decide) (by omega)
  omega
def outRel (ws : List (List UInt8)) (p : Value) (w : World) (v i : Value) (wr : World) : Prop := rlRel ws p w v i wr
def dgPost (l : List UInt8) (w : World) (e : Ending) (w' : World) : Prop := ∃ z, e = .returned (.tuple #[.float .f32 z, .bool (fdB l)]) ∧ (fdB l = true → z = fdN l) ∧ w = w'
theorem dg_no {l : List UInt8} {w : World} {z : Nat} (h : fdB l = false) : dgPost l w (.returned (.tuple #[.float .f32 z, .bool false])) w := ⟨z, by rw [h], (fun h2 => by rw [h] at h2; cases h2), rfl⟩
theorem dg_yes {l : List UInt8} {w : World} {z : Nat} (h : fdB l = true) (h2 : fdN l = z) : dgPost l w (.returned (.tuple #[.float .f32 z, .bool true])) w := ⟨z, by rw [h], (fun _ => h2.symm), rfl⟩
set_option maxHeartbeats 2000000 in
theorem l01Digits_any (S : ByteArray) (w : World) (h8 : S.size = 8) :
    Calls Tryd.prog 84 #[.string S] w (dgPost S.data.toList w) := by
  have hl8 : S.data.toList.length = 8 := by simpa using h8
  have HL8 := Lib.hid hl8
  have h8i : (8 : Int) ≤ (S.size : Int) := by omega
  have h8j : (S.size : Int) ≤ 8 := by omega
  have H8 := Lib.hid h8
  clear hl8 h8
  go_enter Tryd.func84, Tryd.ntmps84
  go_wp2
  go_loop [4, 5] (fun vn vk => inRel S vn vk) (fun _ vk => 8 - (Go.RowKit.intOf vk).toNat)
  case atStart => exact ⟨0, 0, Nat.zero_le _, rfl, rfl, rfl, by decide⟩
  case round =>
    obtain ⟨j, N, hj, rfl, rfl, hr, hN⟩ := hrel
    by_cases hj8 : j < 8
    · have hjl : j < S.data.toList.length := by rw [HL8.out]; exact hj8
      have hjS : j < S.size := by rw [H8.out]; exact hj8
      have hNb := pow_8 hj8
      have hNI : (N : Int) ≤ 268435456 := by omega
      have hsc : S.data.toList[j] = S[j] := rfl
      have HRN : Hid (hv S[j] = none → hread S.data.toList 0 = none) := fun h => hread_none hjl h hr
      have HRS : Hid (∀ d, hv S[j] = some d → d < 16 ∧ hread S.data.toList 0 = hread (S.data.toList.drop (j + 1)) (16 * N + d) ∧ 16 * N + d < 16 ^ (j + 1)) := fun d h => by
        have hd := (hx_hv h).1
        refine ⟨hd, hread_step hjl h hr, ?_⟩
        rw [Nat.pow_succ]
        omega
      clear hr hN hNb hsc hjl
      by_cases c1 : 48 ≤ (S[j].toNat : Int) ∧ (S[j].toNat : Int) ≤ 57
      · obtain ⟨c1, c2⟩ := c1
        have H := Lib.hid (HRS.out (S[j].toNat - 48) (by unfold hv; rw [if_pos ⟨by omega, by omega⟩]))
        go_wp2
        go_round
        case rel => exact ⟨j + 1, _, by omega, by go_num, by go_num, H.out.2.1, H.out.2.2⟩
        case measure => simp [Go.RowKit.intOf] <;> omega
      · by_cases c3 : 97 ≤ (S[j].toNat : Int) ∧ (S[j].toNat : Int) ≤ 102
        · obtain ⟨c3, c4⟩ := c3
          have H := Lib.hid (HRS.out (S[j].toNat - 87) (by unfold hv; rw [if_neg (by omega), if_pos ⟨by omega, by omega⟩]))
          have c5 : (58 : Int) ≤ (S[j].toNat : Int) := by omega
          clear c1
          go_wp2
          go_round
          case rel => exact ⟨j + 1, _, by omega, by go_num, by go_num, H.out.2.1, H.out.2.2⟩
          case measure => simp [Go.RowKit.intOf] <;> omega
        · have hn := HRN.out (by unfold hv; rw [if_neg (by omega), if_neg (by omega)])
          have HR := Lib.hid (fdB_none hn)
          clear hn
          by_cases d1 : 48 ≤ (S[j].toNat : Int)
          · have d2 : (58 : Int) ≤ (S[j].toNat : Int) := by omega
            clear c1
            by_cases d3 : 97 ≤ (S[j].toNat : Int)
            · have d4 : (103 : Int) ≤ (S[j].toNat : Int) := by omega
              clear c3
              go_wp2
              go_ret2
              exact dg_no HR.out
            · clear c3
              go_wp2
              go_ret2
              exact dg_no HR.out
          · clear c1 c3
            go_wp2
            go_ret2
            exact dg_no HR.out
    · obtain rfl : j = 8 := by omega
      rw [List.drop_of_length_le (by rw [HL8.out]; exact Nat.le_refl _)] at hr
      have hN32 : N < 4294967296 := hN
      obtain ⟨k1, k2⟩ := fdB_some HL8.out (n := N) hr
      have hfr := fun W => from_any N W hN32
      have hbi := fun W => l01Bits_any N W (wf_of_lt hN32)
      have HFR := Lib.hid hfr
      have hNI : (N : Int) ≤ 4294967295 := by omega
      clear hr hN hN32 hfr
      by_cases he : cn .f32 N = N
      · rw [decide_eq_true he] at k1
        rw [he] at hbi
        have HBI := Lib.hid hbi
        have HK1 := Lib.hid k1
        have HK2 := Lib.hid k2
        clear he hbi k1 k2
        go_wp2_with (first | (go_at_call 80; refine (HFR.out _).mono ?_; rintro e w2 ⟨rfl, rfl⟩) | (go_at_call 81; refine (HBI.out _).mono ?_; rintro e w2 ⟨rfl, rfl⟩))
        go_ret2
        exact dg_yes HK1.out HK2.out
      · rw [decide_eq_false he] at k1
        have HK1 := Lib.hid k1
        have hne2 : ((cn .f32 N : Int) != (N : Int)) = true := by simp; omega
        have HBI := Lib.hid hbi
        clear he hbi k1 k2
        go_wp2_with (first | (go_at_call 80; refine (HFR.out _).mono ?_; rintro e w2 ⟨rfl, rfl⟩) | (go_at_call 81; refine (HBI.out _).mono ?_; rintro e w2 ⟨rfl, rfl⟩))
        go_ret2
        exact dg_no HK1.out
set_option maxHeartbeats 2000000 in
theorem l01CRead_any (s : ByteArray) (w : World) (hs : s.size ≤ 1048576) :
    Calls Tryd.prog 59 #[.string s] w (rlPost s.data.toList w) := by
  obtain ⟨i0, hi, hz0, hz1, hz2⟩ := info_parts info_el
  have HI := Lib.hid (And.intro hi (And.intro hz0 (And.intro hz1 hz2)))
  clear hi hz0 hz1 hz2
  by_cases hnone : s.data.toList = noneL
  · have hse : s = ⟨#[110, 111, 110, 101]⟩ := Go.WideShapes.bytes_inj (by rw [hnone]; rfl)
    have HR := Lib.hid (rl_none hnone)
    clear hnone
    go_enter Tryd.func59, Tryd.ntmps59
    go_wp2
    go_ret2
    exact rl_end HR.out rfl (own_start w _) ((Below.refl _ _).alloc (Nat.le_refl _) _)
  · have hne : (s.toList == [110, 111, 110, 101]) = false := by rw [beq_eq_false_iff_ne, Go.ByteArray.toList_eq]; exact hnone
    have hlen := cutF_le s.data.toList []
    have hpos := cut_pos s.data.toList []
    have HBAD : Hid (∀ k (hk : k < (cut s.data.toList).length), cdB (cut s.data.toList)[k] = false → rlB s.data.toList = false ∧ rlX s.data.toList = []) := fun k hk h => rl_bad hnone hk h
    have HLONG : Hid (¬ (cut s.data.toList).length ≤ 256 → rlB s.data.toList = false ∧ rlX s.data.toList = []) := rl_long hnone
    have HGOOD : Hid ((cut s.data.toList).length ≤ 256 → (cut s.data.toList).all cdB = true → rlB s.data.toList = true ∧ rlX s.data.toList = (cut s.data.toList).map cdN) := rl_good hnone
    have hl20 : (cut s.data.toList).length ≤ 1048577 := by have h : s.data.toList.length ≤ 1048576 := (by simpa using hs); unfold cut; omega
    have hl1 : 1 ≤ (cut s.data.toList).length := hpos
    have HCUT : Hid (∀ W : World, Calls Tryd.prog 75 #[.string s, .int .u8 44] W fun e w' => ∃ g c, e = .returned (.slice (some ⟨g, 0, none⟩) (cut s.data.toList).length c) ∧ w'.ownsRow 0 9 1 (.slice (some ⟨g, 0, none⟩) (cut s.data.toList).length c) (cut s.data.toList).length (strs (cut s.data.toList)) ∧ Below W.heap.size W w') := fun W =>
      (l01Cut_any s W hs).mono fun e w' ⟨g, c, he, ho, hb⟩ => ⟨g, c, he, pw_mono ho (Nat.zero_le _), hb⟩
    clear hnone hlen hpos
    obtain ⟨ws, hws⟩ : ∃ ws, ws = cut s.data.toList := ⟨_, rfl⟩
    rw [← hws] at HCUT HBAD HLONG HGOOD hl20 hl1
    clear hws
    obtain ⟨n, hn⟩ : ∃ n, n = ws.length := ⟨_, rfl⟩
    rw [← hn] at hl20 hl1
    have HL := Lib.hid hn
    have HC2 : Hid (∀ W : World, Calls Tryd.prog 75 #[.string s, .int .u8 44] W fun e w' => ∃ g c, e = .returned (.slice (some ⟨g, 0, none⟩) n c) ∧ w'.ownsRow 0 9 1 (.slice (some ⟨g, 0, none⟩) n c) n (strs ws) ∧ Below W.heap.size W w') := by rw [hn]; exact HCUT
    clear hn HCUT
    by_cases h256 : n ≤ 256
    · go_enter Tryd.func59, Tryd.ntmps59
      go_wp2_with (go_at_call 75; refine (HC2.out _).mono ?_; rintro e w1 ⟨g, c, rfl, ho1, hb1⟩; refine Hid.out ?_)
      refine Lib.hid ?_
      have hb1' : Below w.heap.size w w1 := ((Below.refl _ _).alloc (Nat.le_refl _) _).trans (hb1.mono (by simp))
      have hv1 := pw_below (own_start w 68) hb1
      obtain ⟨p, hp⟩ : ∃ p, p = Value.slice (some ⟨g, 0, none⟩) n c := ⟨_, rfl⟩
      have HP : Hid (p = Value.slice (some ⟨g, 0, none⟩) ws.length c) := by show _ = _; rw [hp, ← HL.out]
      rw [← hp] at ho1
      clear hp hb1
      go_wp2
      go_loopw [4, 6] (fun v i wr => rlRel ws p w v i wr) (fun _ i _ => n - (Go.RowKit.intOf i).toNat)
      case atStart => exact ⟨0, Nat.zero_le _, Nat.zero_le _, rfl, rfl, hv1, by rw [← HL.out]; exact ho1, hb1'⟩
      case round =>
        obtain ⟨k, hk, hkM, rfl, ha, ho, hpo, hb⟩ := hrel
        have hk' : k ≤ n := by have := HL.out; omega
        have hsz := hb.size
        by_cases hlt : k < n
        · have hkw : k < ws.length := by have := HL.out; omega
          have hcx := word_cell HP.out hpo hkw
          have hbad := HBAD.out k hkw
          have hat := all_take hkw
          have hvt := vals_take hkw
          rw [ha, Bool.true_and] at hat
          generalize ws[k] = x at *
          obtain ⟨S, hS⟩ : ∃ S : ByteArray, S = ⟨x.toArray⟩ := ⟨_, rfl⟩
          have hSx : S.data.toList = x := by rw [hS]
          rw [← hS] at hcx
          subst hSx
          obtain ⟨av, cv, rfl⟩ := len_own ho
          have HB' := Lib.hid hb
          have HO := Lib.hid ho
          have HPO := Lib.hid hpo
          have HVT := Lib.hid hvt
          have HAT := Lib.hid hat
          have HBA := Lib.hid hbad
          clear hS hbad hat hvt ho hpo hb ha
          by_cases h16 : S.size = 16
          · have hl : S.data.toList.length = 16 := by simpa using h16
            have hL : ∀ W : World, Calls Tryd.prog 84 #[.string (S.extract 0 8)] W (dgPost (S.data.toList.take 8) W) := fun W => by
              have := l01Digits_any (S.extract 0 8) W (by simp; omega)
              rwa [left_data] at this
            have hR : ∀ W : World, Calls Tryd.prog 84 #[.string (S.extract 8 S.size)] W (dgPost (S.data.toList.drop 8) W) := fun W => by
              have := l01Digits_any (S.extract 8 S.size) W (by simp; omega)
              rwa [right_data] at this
            have HC := Lib.hid (cdB_of hl)
            have h16b : ((S.size : Int) != 16) = false := by simp; omega
            have h8i : (8 : Int) ≤ (S.size : Int) := by omega
            cases h1 : fdB (S.data.toList.take 8) <;> cases h2 : fdB (S.data.toList.drop 8)
            all_goals
              have hL2 := fun W => (hL W).mono fun e w' h => (show ∃ z, e = Ending.returned (.tuple #[.float .f32 z, .bool _]) ∧ (_ = true → z = fdN (S.data.toList.take 8)) ∧ W = w' from by unfold dgPost at h; rw [h1] at h; exact h)
              have hR2 := fun W => (hR W).mono fun e w' h => (show ∃ z, e = Ending.returned (.tuple #[.float .f32 z, .bool _]) ∧ (_ = true → z = fdN (S.data.toList.drop 8)) ∧ W = w' from by unfold dgPost at h; rw [h2] at h; exact h)
              have HL2 := Lib.hid hL2
              have HR2 := Lib.hid hR2
              have HCC := HC.out
              rw [h1, h2] at HCC
              clear hL hR hL2 hR2 hl h1 h2 h16
            all_goals
              first
                | (have HR := Lib.hid (HBA.out (show cdB S.data.toList = false from HCC))
                   clear HCC
                   go_wp2_with (go_at_call 84; refine (HL2.out _).mono ?_; rintro e w1 ⟨z1, rfl, hz1, rfl⟩; have HZ1 := Lib.hid hz1; clear hz1; refine Hid.out ?_)
                   refine Lib.hid ?_
                   go_wp2_with (go_at_call 84; refine (HR2.out _).mono ?_; rintro e w1 ⟨z2, rfl, hz2, rfl⟩; have HZ2 := Lib.hid hz2; clear hz2)
                   go_ret2
                   exact rl_nil HR.out HB'.out)
                | (have HT : Hid (cdB S.data.toList = true) := HCC
                   clear HCC
                   go_wp2_with (go_at_call 84; refine (HL2.out _).mono ?_; rintro e w1 ⟨z1, rfl, hz1, rfl⟩; have HZ1 := Lib.hid hz1; clear hz1; refine Hid.out ?_)
                   refine Lib.hid ?_
                   have ho2 := HO.out
                   go_wp2_with (first | (go_at_call 84; refine (HR2.out _).mono ?_; rintro e w1 ⟨z2, rfl, hz2, rfl⟩; have HZ2 := Lib.hid hz2; clear hz2) | (at_builtin; go_loud (refine wpList_append_own _ rfl (.tmp 56) (.tmp 60) 44 rfl w.heap.size 68 i0 (.complex .f32 0 0) 1 8 Tryd.underlying44 HI.out.1 HI.out.2.1 HI.out.2.2.1 HI.out.2.2.2 rfl (by decide) _ k _ rfl (by exact ho2.alloc _) ⟨wr.heap.size, 0, none⟩ 1 1 [mkC (z1, z2)] rfl rfl (by exact cell_one_at _ _ _) (by simp [Value.oneCell']) (by unfold maxLen; omega) (by omega) (by have := HB'.out.size; simp; omega) ?_); intro v2 w3 hown3 hgrow hnil; refine Hid.out ?_))
                   refine Lib.hid ?_
                   have HY := Lib.hid (app_val HB'.out HPO.out ho2 v2 w3 hgrow)
                   have e1 : z1 = fdN (S.data.toList.take 8) := by first | exact HZ1.out rfl | exact HZ1.out trivial
                   have e2 : z2 = fdN (S.data.toList.drop 8) := by first | exact HZ2.out rfl | exact HZ2.out trivial
                   have hz : cdN S.data.toList = (z1, z2) := by rw [e1, e2]; rfl
                   have HO3 : Hid (w3.ownsRow w.heap.size 68 1 v2 (k + 1) (vals (ws.take (k + 1)))) := by show World.ownsRow _ _ _ _ _ _ _; rw [HVT.out, hz]; exact hown3
                   have HATT : Hid ((ws.take (k + 1)).all cdB = true) := by have h := HAT.out; rw [HT.out] at h; exact h
                   clear hown3 hgrow hnil ho2 hz e1 e2
                   go_wp2
                   go_roundw
                   case rel => exact ⟨k + 1, by have := HL.out; omega, by omega, by go_num, HATT.out, HO3.out, HY.out.1, HY.out.2⟩
                   case measure => simp [Go.RowKit.intOf] <;> omega)
          · have HR := Lib.hid (HBA.out (cdB_len (by simpa using h16)))
            have h16b : ((S.size : Int) != 16) = true := by simp; omega
            clear h16
            go_wp2
            go_ret2
            exact rl_nil HR.out HB'.out
        · obtain rfl : k = n := by omega
          have hkw : k = ws.length := HL.out
          rw [hkw, List.take_length] at ha ho
          have HR := Lib.hid (HGOOD.out (by omega) ha)
          obtain ⟨av, cv, rfl⟩ := len_own ho
          have HO := Lib.hid ho
          have HB' := Lib.hid hb
          have HKW := Lib.hid hkw
          clear ha ho hpo hb hkw
          go_wp2
          go_ret2
          exact rl_end HR.out (by simp) HO.out HB'.out
    · have HR : Hid (rlB s.data.toList = false ∧ rlX s.data.toList = []) := HLONG.out (by have := HL.out; omega)
      have h257 : 256 < n := by omega
      clear h256
      go_enter Tryd.func59, Tryd.ntmps59
      go_wp2_with (go_at_call 75; refine (HC2.out _).mono ?_; rintro e w1 ⟨g, c, rfl, ho1, hb1⟩)
      go_ret2
      exact rl_nil HR.out (((Below.refl _ _).alloc (Nat.le_refl _) _).trans (hb1.mono (by simp)))
theorem specRl_any (s : ByteArray) (w : World) (hs : s.size ≤ 1048576) :
    Calls Tryd.prog 33 #[.string s] w (rlPost s.data.toList w) := by
  have hc := l01CRead_any s w hs
  go_enter Tryd.func33, Tryd.ntmps33
  go_wp2_with (go_at_call 59; refine hc.mono ?_; rintro e w' ⟨a, c, rfl, ho, hb⟩)
  go_ret2
  exact ⟨a, c, rfl, ho, hb⟩
theorem implRl_any (s : ByteArray) (w : World) (hs : s.size ≤ 1048576) (hE : EnvF w) :
    Calls Tryd.prog 34 #[.string s] w (rlPost s.data.toList w) := by
  have hc := readTexts_any s w hs hE
  clear hE
  go_enter Tryd.func34, Tryd.ntmps34
  go_wp2_with (go_at_call 60; refine hc.mono ?_; rintro e w' ⟨a, c, rfl, ho, hb⟩)
  go_ret2
  exact ⟨a, c, rfl, ho, hb⟩
theorem db_rc {W : World} (h : laidMet Tryd.prog Rows.fnExactReadComplexRow.laid W) : Db W := db_of_reads (laidMet.reads h (.tail _ (.head _)))
end Go.Proofs.YtcbfefamemidnaaDoor

