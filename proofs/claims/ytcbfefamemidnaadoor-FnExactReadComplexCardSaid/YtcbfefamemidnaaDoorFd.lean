/-
  readBits: a number read from its eight digits, the program's side.
-/
import Derived.Test.YtcbfefamemidnaaDoorPu
import Derived.Test.YtcbfefamemidnaaDoorFb
import Derived.Test.YtcbfefamemidnaaDoorShU
import Derived.Test.YtcbfefamemidnaaDoorEnv
namespace Go.Proofs.YtcbfefamemidnaaDoor
open Go.RowKit Go.Lib
set_option linter.unusedVariables false
set_option linter.unusedSimpArgs false

def EnvF (w : World) : Prop := Db w ∧ Errs w ∧ MxL w
theorem EnvF.below {w w' : World} (h : EnvF w) (hb : Below w.heap.size w w') : EnvF w' := ⟨h.1.below hb, h.2.1.below hb, h.2.2.below hb⟩
theorem wf_of_lt {n : Nat} (h : n < 4294967296) : (Lit.float .f32 n).wf = true := by
  simpa [Lit.wf] using h
theorem err_cells {w : World} (h : Errs w) : (∃ ev, w.cell? ⟨2, 0, none⟩ = some ev ∧ (ev = .nilIface ∨ ∃ te pe, ev = .iface te pe)) ∧ ∃ ev, w.cell? ⟨3, 0, none⟩ = some ev ∧ (ev = .nilIface ∨ ∃ te pe, ev = .iface te pe) := by
  obtain ⟨⟨t, p, h1⟩, t', p', h2⟩ := h
  have c1 := World.var?_cell gSyn h1 0
  have c2 := World.var?_cell gRng h2 0
  exact ⟨⟨_, by simpa using c1, .inr ⟨_, _, rfl⟩⟩, ⟨_, by simpa using c2, .inr ⟨_, _, rfl⟩⟩⟩
def isGood (l : List UInt8) (n : Nat) : Prop := l ≠ [] ∧ pu l 0 = .good n
theorem pub_ok (s : ByteArray) (n : Nat) (hs : s.size ≤ 1048577) (h : isGood s.data.toList n) (w : World) :
    Calls Tryd.prog 82 #[.string s, .int .i64 16, .int .i64 32] w fun e w' => e = .returned (.tuple #[.int .u64 (n : Int), .nilIface]) ∧ Below w.heap.size w w' := by
  have hc := pu_any s (fun h0 => h.1 (List.eq_nil_of_length_eq_zero (by simpa using h0))) hs w
  rw [h.2] at hc
  have hc : Calls Tryd.prog 89 #[.string s, .int .i64 16, .int .i64 32] w fun e w' => e = .returned (.tuple #[.int .u64 (n : Int), .nilIface]) ∧ Below w.heap.size w w' := hc.mono fun e w' ⟨he, hw⟩ => ⟨he, by rw [hw]; exact bytesWorld_below _ _ _⟩
  clear h
  go_enter Tryd.func82, Tryd.ntmps82
  go_wp2_with (go_at_call 89; refine hc.mono ?_; rintro e w' ⟨rfl, hb⟩)
  go_ret2
  exact ⟨rfl, hb⟩
theorem pub_no (s : ByteArray) (hs : s.size ≤ 1048577) (h : ∀ n, ¬ isGood s.data.toList n) (w : World) (hE : Errs w) :
    Calls Tryd.prog 82 #[.string s, .int .i64 16, .int .i64 32] w fun e w' => ∃ z t p, e = .returned (.tuple #[.int .u64 z, .iface t p]) ∧ Below w.heap.size w w' := by
  have hc : ∃ (z : Int) (k : Int), (k = 2 ∨ k = 1) ∧ Calls Tryd.prog 89 #[.string s, .int .i64 16, .int .i64 32] w fun e w' => e = .returned (.tuple #[.int .u64 z, .iface 101 (.int .i64 k)]) ∧ Below w.heap.size w w' := by
    by_cases h0 : s.data.toList = []
    · have e : s = ⟨#[]⟩ := Go.WideShapes.bytes_inj (by rw [h0])
      subst e
      exact ⟨0, 2, .inl rfl, (Tryd.internal_strconv_ParseUint_empty 16 32 w).mono fun e w' ⟨he, hw⟩ => ⟨he, by rw [hw]; exact Below.refl _ _⟩⟩
    · have hp := pu_any s (fun h2 => h0 (List.eq_nil_of_length_eq_zero (by simpa using h2))) hs w
      cases hpu : pu s.data.toList 0 with
      | good n => exact absurd ⟨h0, hpu⟩ (h n)
      | bad =>
        rw [hpu] at hp
        exact ⟨0, 2, .inl rfl, hp.mono fun e w' ⟨he, hw⟩ => ⟨he, by rw [hw]; exact bytesWorld_below _ _ _⟩⟩
      | big =>
        rw [hpu] at hp
        exact ⟨4294967295, 1, .inr rfl, hp.mono fun e w' ⟨he, hw⟩ => ⟨he, by rw [hw]; exact bytesWorld_below _ _ _⟩⟩
  obtain ⟨z, k, hk, hc⟩ := hc
  have hte : ∀ W : World, Errs W → Calls Tryd.prog 66 #[.string ⟨#[80, 97, 114, 115, 101, 85, 105, 110, 116]⟩, .string s, .int .i64 16, .int .i64 32, .iface 101 (.int .i64 k)] W fun e w' => ∃ t p, e = .returned (.iface t p) ∧ Below W.heap.size W w' := fun W hW => by
    obtain ⟨⟨ev, h1, h2⟩, ev', h3, h4⟩ := err_cells hW
    rcases hk with rfl | rfl
    · exact (Tryd.strconv_toError_syntax _ s 16 32 ev W (by omega) h1 h2).mono fun e w' ⟨N, he, _, _, hb⟩ => ⟨_, _, he, hb⟩
    · exact (Tryd.strconv_toError_range _ s 16 32 ev' W (by omega) h3 h4).mono fun e w' ⟨N, he, _, _, hb⟩ => ⟨_, _, he, hb⟩
  have HT := Lib.hid hte
  have HE := Lib.hid hE
  clear h hte hE hk
  go_enter Tryd.func82, Tryd.ntmps82
  go_wp2_with (first | (go_at_call 89; refine hc.mono ?_; rintro e w1 ⟨rfl, hb⟩) | (go_at_call 66; refine (HT.out _ (HE.out.below hb)).mono ?_; rintro e w2 ⟨t, p, rfl, hb2⟩))
  go_ret2
  exact ⟨_, _, _, rfl, hb.trans (hb2.mono hb.size)⟩

/-- Whether a text is that of a number; the number's bits. -/
def fdB (l : List UInt8) : Bool := decide (l.length = 8) && (match hread l 0 with | some m => decide (cn .f32 m = m) | none => false)
def fdN (l : List UInt8) : Nat := (hread l 0).getD 0
theorem fd_true {l : List UInt8} (h : fdB l = true) : l.length = 8 ∧ hread l 0 = some (fdN l) ∧ cn .f32 (fdN l) = fdN l ∧ fdN l < 4294967296 ∧ hsuf (fdN l) 8 = l ∧ isGood l (fdN l) := by
  unfold fdB at h
  rw [Bool.and_eq_true, decide_eq_true_iff] at h
  obtain ⟨h1, h2⟩ := h
  cases hr : hread l 0 with
  | none => rw [hr] at h2; cases h2
  | some m =>
    rw [hr] at h2
    have h3 : cn .f32 m = m := of_decide_eq_true h2
    have e : fdN l = m := by unfold fdN; rw [hr]; rfl
    rw [e]
    obtain ⟨h4, h5⟩ := suf_hread l 0 m hr
    rw [h1] at h4 h5
    have h6 : m < 4294967296 := by
      rcases Nat.lt_or_ge m 4294967296 with h | h
      · exact h
      · have := Nat.div_pos h (by decide)
        rw [show (4294967296 : Nat) = 16 ^ 8 from rfl] at this
        omega
    exact ⟨h1, rfl, h3, h6, h4, ⟨(fun h0 => by rw [h0] at h1; cases h1), pu_hread l 0 m hr (by omega)⟩⟩
theorem fd_of {l : List UInt8} {n : Nat} (hp : isGood l n) (h : hsuf (cn .f32 n) 8 = l) (hc : cn .f32 n < 4294967296) : fdB l = true ∧ fdN l = n := by
  have h1 : l.length = 8 := by rw [← h, hsuf_len]
  have h2 : hread l 0 = some (cn .f32 n) := by
    rw [← h, hread_suf]
    congr 1
    have : cn .f32 n % 16 ^ 8 = cn .f32 n := Nat.mod_eq_of_lt hc
    omega
  have h3 := pu_hread l 0 _ h2 (by omega)
  rw [hp.2] at h3
  have h4 : n = cn .f32 n := by injection h3
  have e : fdN l = n := by unfold fdN; rw [h2]; exact h4.symm
  refine ⟨?_, e⟩
  unfold fdB
  rw [h1, h2]
  simp
  rw [cn_cn]
theorem fd_ne {l : List UInt8} {n : Nat} (hp : isGood l n) (h : hsuf (cn .f32 n) 8 ≠ l) : fdB l = false := by
  cases hb : fdB l
  · rfl
  · obtain ⟨_, _, h3, _, h5, h6⟩ := fd_true hb
    have e : n = fdN l := by have := hp.2.symm.trans h6.2; injection this
    rw [e, h3] at h
    exact absurd h5 h
theorem pu_le : ∀ (l : List UInt8) (a n : Nat), a ≤ 4294967295 → pu l a = .good n → n ≤ 4294967295
  | [], a, n, ha, h => by
    have : a = n := by injection h
    omega
  | c :: l, a, n, ha, h => by
    rw [pu] at h
    cases hd : dv c with
    | none => rw [hd] at h; cases h
    | some d =>
      rw [hd] at h
      dsimp only at h
      split at h
      · cases h
      · split at h
        · cases h
        · exact pu_le l _ n (by omega) h
def fdPost (l : List UInt8) (w : World) (e : Ending) (w' : World) : Prop := ∃ z, e = .returned (.tuple #[.float .f32 z, .bool (fdB l)]) ∧ (fdB l = true → z = fdN l) ∧ Below w.heap.size w w'
theorem fd_no {l : List UInt8} {w w' : World} {z : Nat} (h : fdB l = false) (hb : Below w.heap.size w w') : fdPost l w (.returned (.tuple #[.float .f32 z, .bool false])) w' := ⟨z, by rw [h], (fun h2 => by rw [h] at h2; cases h2), hb⟩
theorem fd_yes {l : List UInt8} {w w' : World} {z : Nat} (h : fdB l = true ∧ fdN l = z) (hb : Below w.heap.size w w') : fdPost l w (.returned (.tuple #[.float .f32 z, .bool true])) w' := ⟨z, by rw [h.1], fun _ => h.2.symm, hb⟩
theorem ba_eqF {l : List UInt8} {s : ByteArray} (h : l = s.data.toList) : (⟨l.toArray⟩ : ByteArray) = s := by subst h; rfl
theorem ba_neF {l : List UInt8} {s : ByteArray} (h : l ≠ s.data.toList) : (l == s.toList) = false := by
  rw [beq_eq_false_iff_ne, Go.ByteArray.toList_eq]; exact h
set_option maxHeartbeats 1000000 in
theorem readBits_any (s : ByteArray) (w : World) (hs : s.size ≤ 1048577) (hE : EnvF w) :
    Calls Tryd.prog 58 #[.string s] w (fdPost s.data.toList w) := by
  by_cases hg : ∃ n, isGood s.data.toList n
  · obtain ⟨n, hn⟩ := hg
    have hle := pu_le _ 0 n (by omega) hn.2
    have hc := pub_ok s n hs hn w
    have hwf := wf_of_lt (n := n) (by omega)
    have hd : ∀ W : World, Db W → Calls Tryd.prog 54 #[.float .f32 n] W (strPost (hsuf (cn .f32 n) 8) W) := fun W hW => bitsText_any n W hwf hW
    have HD := Lib.hid hd
    have HE := Lib.hid hE
    by_cases he : hsuf (cn .f32 n) 8 = s.data.toList
    · have HR := Lib.hid (fd_of hn he (cn_lt hwf))
      have HQ := Lib.hid (ba_eqF he)
      have hleI : (n : Int) ≤ 4294967295 := by omega
      clear hn hle hwf hd hE he
      go_enter Tryd.func58, Tryd.ntmps58
      go_wp2_with (first | (go_at_call 82; refine hc.mono ?_; rintro e w1 ⟨rfl, hb1⟩) | (go_at_call 54; refine (HD.out _ (HE.out.1.below hb1)).mono ?_; rintro e w2 ⟨rfl, hb2⟩; rw [HQ.out]))
      go_ret2
      exact fd_yes HR.out (hb1.trans (hb2.mono hb1.size))
    · have HR := Lib.hid (fd_ne hn he)
      have hne := ba_neF he
      have hleI : (n : Int) ≤ 4294967295 := by omega
      clear hn hle hwf hd hE he
      go_enter Tryd.func58, Tryd.ntmps58
      go_wp2_with (first | (go_at_call 82; refine hc.mono ?_; rintro e w1 ⟨rfl, hb1⟩) | (go_at_call 54; refine (HD.out _ (HE.out.1.below hb1)).mono ?_; rintro e w2 ⟨rfl, hb2⟩))
      go_ret2
      exact fd_no HR.out (hb1.trans (hb2.mono hb1.size))
  · have hng : ∀ n, ¬ isGood s.data.toList n := fun n h => hg ⟨n, h⟩
    have HR : Hid (fdB s.data.toList = false) := by
      show fdB _ = false
      cases hb : fdB s.data.toList
      · rfl
      · exact absurd (fd_true hb).2.2.2.2.2 (hng _)
    have hc := pub_no s hs hng w hE.2.1
    clear hg hng hE
    go_enter Tryd.func58, Tryd.ntmps58
    go_wp2_with (go_at_call 82; refine hc.mono ?_; rintro e w1 ⟨z, t, p, rfl, hb1⟩)
    go_ret2
    exact fd_no HR.out hb1
end Go.Proofs.YtcbfefamemidnaaDoor
