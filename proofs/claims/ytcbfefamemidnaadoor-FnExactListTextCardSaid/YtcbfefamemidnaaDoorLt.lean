/-
  ListText: the reference's side.
-/
import Derived.Test.YtcbfefamemidnaaDoorIs
import Derived.Test.YtcbfefamemidnaaDoorRd
import Derived.Test.YtcbfefamemidnaaDoorJn
namespace Go.Proofs.YtcbfefamemidnaaDoor
open Go.RowKit Go.Lib
set_option linter.unusedVariables false
set_option linter.unusedSimpArgs false

def allV (xs : List Int) : Bool := xs.all isV
def okL (xs : List Int) : Bool := allV xs && decide (xs.length ≤ 64)
theorem allV_take {xs : List Int} {k : Nat} (h : k < xs.length) : allV (xs.take (k + 1)) = (allV (xs.take k) && isV (xs.getD k 0)) := by
  unfold allV
  rw [List.take_succ_eq_append_getElem h, List.all_append]
  simp [List.getD, h]
theorem allV_of_take {xs : List Int} (k : Nat) (h : allV (xs.take k) = false) : allV xs = false := by
  unfold allV at h ⊢
  cases hh : xs.all isV
  · rfl
  · rw [List.all_eq_true] at hh
    rw [List.all_eq_true.2 (fun x hx => hh x (List.mem_of_mem_take hx))] at h
    cases h
theorem getD_mem {xs : List Int} {k : Nat} (h : k < xs.length) : xs.getD k 0 ∈ xs := by
  have : xs.getD k 0 = xs[k] := by simp [List.getD, h]
  rw [this]
  exact List.getElem_mem h

set_option maxHeartbeats 1000000 in
theorem l01List_any (a : Option Addr) (len cap : Nat) (xs : List Int) (w : World) (hr : IsIRow w a len cap xs) (hl : len ≤ 1048576) :
    Calls Tryd.prog 45 #[.slice a len cap] w fun e w' => e = .returned (.bool (okL xs)) ∧ w = w' := by
  obtain ⟨h1, h2, h3, h4⟩ := hr
  go_enter Tryd.func45, Tryd.ntmps45
  go_wp2
  go_loop [3] (fun i => ∃ k : Nat, k ≤ len ∧ i = .int .i64 k ∧ allV (xs.take k) = true) (fun i => len - (Go.RowKit.intOf i).toNat)
  case atStart => exact ⟨0, Nat.zero_le _, rfl, rfl⟩
  case round =>
    obtain ⟨k, hk, rfl, ha⟩ := hrel
    by_cases hlt : k < len
    · rcases h4 with h4 | ⟨b, off, rfl, hbl, hc⟩
      · exfalso; rw [h4] at h1; simp at h1; omega
      have hc1 := hc k hlt
      have ht := allV_take (xs := xs) (k := k) (by omega)
      have ho : allV (xs.take (k + 1)) = false → okL xs = false := fun h => by unfold okL; rw [allV_of_take _ h]; rfl
      rw [ha, Bool.true_and] at ht
      generalize xs.getD k 0 = x at *
      cases hv : isV x
      · rw [hv] at ht
        have HO := Lib.hid (ho ht)
        have HV := Lib.hid hv
        clear ho ht ha hv hc h1
        go_wp2_with (go_at_call 64; refine (in_no _ _ HV.out).mono ?_; rintro e w' ⟨rfl, rfl⟩)
        go_ret
        exact ⟨by rw [HO.out]; rfl, rfl⟩
      · rw [hv] at ht
        have HT := Lib.hid ht
        have HV := Lib.hid hv
        clear ho ht ha hv hc h1
        go_wp2_with (go_at_call 64; refine (in_yes _ _ HV.out).mono ?_; rintro e w' ⟨rfl, rfl⟩)
        go_round
        case rel => exact ⟨k + 1, by omega, by go_num, HT.out⟩
        case measure => simp [Go.RowKit.intOf]; omega
    · obtain rfl : k = len := by omega
      rw [List.take_of_length_le (by omega)] at ha
      have HO : Hid (okL xs = decide (k ≤ 64)) := by show _ = _; unfold okL; rw [ha, h1]; rfl
      clear ha h1 h4
      go_wp2
      go_ret
      exact ⟨by rw [HO.out]; simp; omega, rfl⟩
theorem ba_app (j t : List UInt8) : (⟨j.toArray⟩ : ByteArray) ++ ((⟨#[44]⟩ : ByteArray) ++ (⟨t.toArray⟩ : ByteArray)) = ⟨(j ++ 44 :: t).toArray⟩ := by
  apply Go.WideShapes.bytes_inj
  rw [Go.Joins.data_append, Go.Joins.data_append]
  simp
/-- The words of a list. -/
def wds (xs : List Int) : List (List UInt8) := xs.map itoa
theorem wds_len (xs : List Int) : (wds xs).length = xs.length := by simp [wds]
theorem wds_at {xs : List Int} {k : Nat} (h : k < xs.length) (h' : k < (wds xs).length) : (wds xs)[k] = itoa (xs.getD k 0) := by simp [wds, List.getD, h]
theorem wds_short {xs : List Int} (h : allV xs = true) : ∀ x ∈ wds xs, x.length ≤ 17 := by
  intro x hx
  obtain ⟨n, hn, rfl⟩ := List.mem_map.1 hx
  have := isV_iff.1 (List.all_eq_true.1 h n hn)
  exact (itoa_len n this.1 this.2).2
theorem isV_at {xs : List Int} {k : Nat} (h : allV xs = true) (hk : k < xs.length) : isV (xs.getD k 0) = true := List.all_eq_true.1 h _ (getD_mem hk)
def txtRel (ws : List (List UInt8)) (w : World) (o i : Value) (wr : World) : Prop := ∃ k : Nat, 1 ≤ k ∧ k ≤ ws.length ∧ i = .int .i64 k ∧ o = .string ⟨(jn ws k).toArray⟩ ∧ Below w.heap.size w wr
set_option maxHeartbeats 1000000 in
theorem l01Text_any (a : Option Addr) (len cap : Nat) (xs : List Int) (w : World) (hr : IsIRow w a len cap xs) (hl : len ≤ 64) (hv : allV xs = true) :
    Calls Tryd.prog 46 #[.slice a len cap] w (strPost (txt (wds xs)) w) := by
  obtain ⟨h1, h2, h3, h4⟩ := hr
  by_cases h0 : len = 0
  · subst h0
    have e : xs = [] := List.eq_nil_of_length_eq_zero h1
    subst e
    clear h4 hv
    go_enter Tryd.func46, Tryd.ntmps46
    go_wp2
    go_ret
    exact ⟨rfl, Below.refl _ _⟩
  rcases h4 with h4 | ⟨b, off, rfl, hbl, hc⟩
  · exfalso; rw [h4] at h1; simp at h1; omega
  have hs := wds_short hv
  have hwl := wds_len xs
  have hd : ∀ k, k < len → ∀ W : World, Calls Tryd.prog 38 #[.int .i64 (xs.getD k 0)] W (strPost (itoa (xs.getD k 0)) W) := fun k hk W => by
    have := isV_iff.1 (isV_at hv (k := k) (by omega))
    exact l01Dec_any _ W (by omega) (by omega)
  have hat : ∀ k (h : k < (wds xs).length), (wds xs)[k] = itoa (xs.getD k 0) := fun k h => wds_at (by omega) h
  have hj1 : jn (wds xs) 1 = itoa (xs.getD 0 0) := by rw [jn_one _ (by omega), hat]
  have hjs : ∀ k, 1 ≤ k → k < len → jn (wds xs) (k + 1) = jn (wds xs) k ++ (44 :: itoa (xs.getD k 0)) := fun k hk1 hk2 => by rw [jn_step _ k hk1 (by omega), hat]
  have hjl : ∀ k, (jn (wds xs) k).length ≤ 1152 := fun k => by have := jn_len (wds xs) k 17 hs; omega
  have hte := txt_cons (ws := wds xs) (by omega)
  have HD := Lib.hid hd
  have HS : Hid (∀ k, k < len → (itoa (xs.getD k 0)).length ≤ 17) := fun k hk => by
    have h := isV_iff.1 (isV_at hv (k := k) (by omega))
    exact (itoa_len _ h.1 h.2).2
  have HJ1 := Lib.hid hj1
  have HJS := Lib.hid hjs
  have HJL := Lib.hid hjl
  have HTE := Lib.hid hte
  have HWL := Lib.hid hwl
  have hc0 := hc 0 (by omega)
  rw [Nat.add_zero] at hc0
  have HC := Lib.hid hc
  have hpos : 0 < len := by omega
  have hne : ((len : Int) == 0) = false := by simp; omega
  have HH1 := Lib.hid h1
  clear hs hd hat hj1 hjs hjl hte hwl hc hv h1 h0
  go_enter Tryd.func46, Tryd.ntmps46
  go_wp2_with (go_at_call 38; refine (HD.out 0 hpos _).mono ?_; rintro e w1 ⟨rfl, hb1⟩)
  go_loopw [3, 4] (fun o i wr => txtRel (wds xs) w o i wr) (fun _ i _ => len - (Go.RowKit.intOf i).toNat)
  case atStart => exact ⟨1, Nat.le_refl _, by have := HWL.out; have := HH1.out; omega, rfl, by rw [HJ1.out]; simp [List.getD], hb1⟩
  case round =>
    obtain ⟨k, hk1, hk, rfl, rfl, hb⟩ := hrel
    have hk' : k ≤ len := by have := HWL.out; have := HH1.out; omega
    by_cases hlt : k < len
    · have hcx : wr.cell? ⟨b, off + k, none⟩ = some (.int .i64 (xs.getD k 0)) := by rw [hb.cell (p := ⟨b, off + k, none⟩) hbl]; exact HC.out k hlt
      have hlen := HJL.out k
      have hcall := HD.out k hlt
      have HJK := Lib.hid (HJS.out k hk1 hlt)
      have hx17 := HS.out k hlt
      obtain ⟨J, hJ⟩ : ∃ J, J = jn (wds xs) k := ⟨_, rfl⟩
      rw [← hJ] at hlen HJK ⊢
      have HJJ := Lib.hid hJ
      clear hJ hc0
      generalize xs.getD k 0 = x at *
      go_wp2_with (go_at_call 38; refine (hcall _).mono ?_; rintro e w2 ⟨rfl, hb2⟩)
      go_roundw
      case rel => exact ⟨k + 1, by omega, by have := HWL.out; have := HH1.out; omega, by go_num, by rw [HJK.out, ba_app], hb.trans (hb2.mono hb.size)⟩
      case measure => simp [Go.RowKit.intOf]; omega
    · obtain rfl : k = len := by omega
      have e : (wds xs).length = k := by have := HWL.out; have := HH1.out; omega
      have HE : Hid (jn (wds xs) k = txt (wds xs)) := by show _ = _; rw [HTE.out, e]
      obtain ⟨J, hJ⟩ : ∃ J, J = jn (wds xs) k := ⟨_, rfl⟩
      rw [← hJ] at HE ⊢
      clear hJ e hc0
      go_wp2
      go_ret
      exact ⟨by rw [← HE.out]; rfl, hb⟩
end Go.Proofs.YtcbfefamemidnaaDoor
