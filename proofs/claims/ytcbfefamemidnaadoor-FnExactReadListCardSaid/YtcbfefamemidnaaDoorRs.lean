/-
  ReadList: the reference's side.
-/
import Derived.Test.YtcbfefamemidnaaDoorRlI
namespace Go.Proofs.YtcbfefamemidnaaDoor
open Go.RowKit Go.Lib
set_option linter.unusedVariables false
set_option linter.unusedSimpArgs false

theorem own_start2 (w : World) (e : TypeId) : (w.alloc (.cells #[] e)).ownsRow w.heap.size e 1 (.slice (some ⟨w.heap.size, 0, none⟩) 0 0) 0 [] := own_start w e
set_option maxHeartbeats 2000000 in
theorem l01Numbers_any (s : ByteArray) (w : World) (hs : s.size ≤ 1048576) :
    Calls Tryd.prog 48 #[.string s] w (rlPost s.data.toList w) := by
  obtain ⟨i0, hi, hz0, hz1, hz2⟩ := info_parts info_el
  have HI := Lib.hid (And.intro hi (And.intro hz0 (And.intro hz1 hz2)))
  clear hi hz0 hz1 hz2
  by_cases hnone : s.data.toList = noneL
  · have hse : s = ⟨#[110, 111, 110, 101]⟩ := Go.WideShapes.bytes_inj (by rw [hnone]; rfl)
    have HR := Lib.hid (rl_none hnone)
    clear hnone
    go_enter Tryd.func48, Tryd.ntmps48
    go_wp2
    go_ret2
    exact rl_end HR.out rfl (own_start w _) ((Below.refl _ _).alloc (Nat.le_refl _) _)
  · have hne : (s.toList == [110, 111, 110, 101]) = false := by rw [beq_eq_false_iff_ne, Go.ByteArray.toList_eq]; exact hnone
    have hlen := cutF_le s.data.toList []
    have hpos := cut_pos s.data.toList []
    have HWD : Hid (∀ k (hk : k < (cut s.data.toList).length), ∀ W : World, Calls Tryd.prog 40 #[.string ⟨(cut s.data.toList)[k].toArray⟩] W (rdPost (cut s.data.toList)[k] W)) := fun k hk W => by
      have h2 := cut_word hk
      have := specVal_any ⟨(cut s.data.toList)[k].toArray⟩ W (by show Array.size _ ≤ _; simp; omega)
      exact this
    have HBAD : Hid (∀ k (hk : k < (cut s.data.toList).length), rdB (cut s.data.toList)[k] = false → rlB s.data.toList = false ∧ rlX s.data.toList = []) := fun k hk h => rl_bad hnone hk h
    have HLONG : Hid (¬ (cut s.data.toList).length ≤ 64 → rlB s.data.toList = false ∧ rlX s.data.toList = []) := rl_long hnone
    have HGOOD : Hid ((cut s.data.toList).length ≤ 64 → (cut s.data.toList).all rdB = true → rlB s.data.toList = true ∧ rlX s.data.toList = (cut s.data.toList).map rdN) := rl_good hnone
    have hl20 : (cut s.data.toList).length ≤ 1048577 := by have h : s.data.toList.length ≤ 1048576 := (by simpa using hs); unfold cut; omega
    have hl1 : 1 ≤ (cut s.data.toList).length := hpos
    have HCUT : Hid (∀ W : World, Calls Tryd.prog 75 #[.string s, .int .u8 44] W fun e w' => ∃ g c, e = .returned (.slice (some ⟨g, 0, none⟩) (cut s.data.toList).length c) ∧ w'.ownsRow 0 9 1 (.slice (some ⟨g, 0, none⟩) (cut s.data.toList).length c) (cut s.data.toList).length (strs (cut s.data.toList)) ∧ Below W.heap.size W w') := fun W =>
      (l01Cut_any s W hs).mono fun e w' ⟨g, c, he, ho, hb⟩ => ⟨g, c, he, pw_mono ho (Nat.zero_le _), hb⟩
    clear hnone hlen hpos
    obtain ⟨ws, hws⟩ : ∃ ws, ws = cut s.data.toList := ⟨_, rfl⟩
    rw [← hws] at HCUT HWD HBAD HLONG HGOOD hl20 hl1
    clear hws
    obtain ⟨n, hn⟩ : ∃ n, n = ws.length := ⟨_, rfl⟩
    rw [← hn] at hl20 hl1
    have HL := Lib.hid hn
    have HC2 : Hid (∀ W : World, Calls Tryd.prog 75 #[.string s, .int .u8 44] W fun e w' => ∃ g c, e = .returned (.slice (some ⟨g, 0, none⟩) n c) ∧ w'.ownsRow 0 9 1 (.slice (some ⟨g, 0, none⟩) n c) n (strs ws) ∧ Below W.heap.size W w') := by rw [hn]; exact HCUT
    clear hn HCUT
    by_cases h64 : n ≤ 64
    · go_enter Tryd.func48, Tryd.ntmps48
      go_wp2_with (go_at_call 75; refine (HC2.out _).mono ?_; rintro e w1 ⟨g, c, rfl, ho1, hb1⟩; refine Hid.out ?_)
      refine Lib.hid ?_
      have hb1' : Below w.heap.size w w1 := ((Below.refl _ _).alloc (Nat.le_refl _) _).trans (hb1.mono (by simp))
      have hv1 := pw_below (own_start w 2) hb1
      obtain ⟨p, hp⟩ : ∃ p, p = Value.slice (some ⟨g, 0, none⟩) n c := ⟨_, rfl⟩
      have HP : Hid (p = Value.slice (some ⟨g, 0, none⟩) ws.length c) := by show _ = _; rw [hp, ← HL.out]
      rw [← hp] at ho1
      clear hp hb1
      go_wp2
      go_loopw [4, 6] (fun v i wr => rlRel ws p w v i wr) (fun _ i _ => n - (Go.RowKit.intOf i).toNat)
      case atStart => exact ⟨0, Nat.zero_le _, Nat.zero_le _, rfl, rfl, hv1, by rw [← HL.out]; exact ho1, hb1'⟩
      case round =>
        obtain ⟨k, hk, hkM, rfl, ha, ho, hpo, hb⟩ := hrel
        have hk' : k ≤ n := by have := HL.out; omega
        have hsz := hb.size
        by_cases hlt : k < n
        · have hkw : k < ws.length := by have := HL.out; omega
          have hcx := word_cell HP.out hpo hkw
          have hcall := HWD.out k hkw
          have hbad := HBAD.out k hkw
          have hat := all_take hkw
          have hvt := vals_take hkw
          rw [ha, Bool.true_and] at hat
          generalize ws[k] = x at *
          cases hB : rdB x
          · have HR := Lib.hid (hbad hB)
            have hc2 : ∀ W : World, Calls Tryd.prog 40 #[.string ⟨x.toArray⟩] W fun e w' => ∃ z, e = .returned (.tuple #[mkI z, .bool false]) ∧ Below W.heap.size W w' := fun W => (hcall W).mono fun e w' ⟨he, hb⟩ => ⟨rdN x, by rw [he, hB], hb⟩
            have HC3 := Lib.hid hc2
            have HB' := Lib.hid hb
            clear hbad hB hat hvt ho hpo hcall ha hc2 hb
            go_wp2_with (go_at_call 40; refine (HC3.out _).mono ?_; rintro e w2 ⟨z, rfl, hb2⟩)
            go_ret2
            exact rl_nil HR.out (HB'.out.trans (hb2.mono hsz))
          · rw [hB] at hat
            have hc2 : ∀ W : World, Calls Tryd.prog 40 #[.string ⟨x.toArray⟩] W fun e w' => e = .returned (.tuple #[mkI (rdN x), .bool true]) ∧ Below W.heap.size W w' := fun W => (hcall W).mono fun e w' ⟨he, hb⟩ => ⟨by rw [he, hB], hb⟩
            have HC3 := Lib.hid hc2
            have HAT := Lib.hid hat
            have HVT := Lib.hid hvt
            have HB' := Lib.hid hb
            have HO := Lib.hid ho
            have HPO := Lib.hid hpo
            generalize rdN x = z at *
            obtain ⟨av, cv, rfl⟩ := len_own ho
            clear hbad hB hat hvt hpo hcall ha hc2
            go_wp2_with (go_at_call 40; refine (HC3.out _).mono ?_; rintro e w2 ⟨rfl, hb2⟩; refine Hid.out ?_)
            refine Lib.hid ?_
            have hb3 := HB'.out.trans (hb2.mono hsz)
            have ho2 := pw_below HO.out hb2
            have hpo2 := pw_below HPO.out hb2
            clear ho hb
            go_wp2_with (at_builtin; go_loud (refine wpList_append_own _ rfl (.tmp 34) (.tmp 36) 27 rfl w.heap.size 2 i0 (.int .i64 0) 1 8 Tryd.underlying27 HI.out.1 HI.out.2.1 HI.out.2.2.1 HI.out.2.2.2 rfl (by decide) _ k _ rfl (by exact ho2.alloc _) ⟨w2.heap.size, 0, none⟩ 1 1 [mkI z] rfl rfl (by exact cell_one_at _ _ _) (by simp [Value.oneCell']) (by unfold maxLen; omega) (by omega) (by have := hb3.size; simp; omega) ?_); intro v2 w3 hown3 hgrow hnil; refine Hid.out ?_)
            refine Lib.hid ?_
            have HY := Lib.hid (app_val hb3 hpo2 ho2 v2 w3 hgrow)
            have HO3 : Hid (w3.ownsRow w.heap.size 2 1 v2 (k + 1) (vals (ws.take (k + 1)))) := by show World.ownsRow _ _ _ _ _ _ _; rw [HVT.out]; exact hown3
            clear hown3 hgrow hnil ho2 hpo2
            go_wp2
            go_roundw
            case rel => exact ⟨k + 1, by have := HL.out; omega, by omega, by go_num, HAT.out, HO3.out, HY.out.1, HY.out.2⟩
            case measure => simp [Go.RowKit.intOf] <;> omega
        · obtain rfl : k = n := by omega
          have hkw : k = ws.length := HL.out
          rw [hkw, List.take_length] at ha ho
          have HR := Lib.hid (HGOOD.out (by omega) ha)
          obtain ⟨av, cv, rfl⟩ := len_own ho
          have HO := Lib.hid ho
          have HB' := Lib.hid hb
          have HKW := Lib.hid hkw
          clear ha ho hpo hb hkw
          go_wp2
          go_ret2
          exact rl_end HR.out (by simp) HO.out HB'.out
    · have HR : Hid (rlB s.data.toList = false ∧ rlX s.data.toList = []) := HLONG.out (by have := HL.out; omega)
      have h65 : 64 < n := by omega
      clear h64
      go_enter Tryd.func48, Tryd.ntmps48
      go_wp2_with (go_at_call 75; refine (HC2.out _).mono ?_; rintro e w1 ⟨g, c, rfl, ho1, hb1⟩)
      go_ret2
      exact rl_nil HR.out (((Below.refl _ _).alloc (Nat.le_refl _) _).trans (hb1.mono (by simp)))
theorem specRl_any (s : ByteArray) (w : World) (hs : s.size ≤ 1048576) :
    Calls Tryd.prog 21 #[.string s] w (rlPost s.data.toList w) := by
  have hc := l01Numbers_any s w hs
  go_enter Tryd.func21, Tryd.ntmps21
  go_wp2_with (go_at_call 48; refine hc.mono ?_; rintro e w' ⟨a, c, rfl, ho, hb⟩)
  go_ret2
  exact ⟨a, c, rfl, ho, hb⟩
theorem implRl_any (s : ByteArray) (w : World) (hs : s.size ≤ 1048576) (hE : Env w) :
    Calls Tryd.prog 22 #[.string s] w (rlPost s.data.toList w) := by
  have hc := readTexts_any s w hs hE
  clear hE
  go_enter Tryd.func22, Tryd.ntmps22
  go_wp2_with (go_at_call 49; refine hc.mono ?_; rintro e w' ⟨a, c, rfl, ho, hb⟩)
  go_ret2
  exact ⟨a, c, rfl, ho, hb⟩
end Go.Proofs.YtcbfefamemidnaaDoor
