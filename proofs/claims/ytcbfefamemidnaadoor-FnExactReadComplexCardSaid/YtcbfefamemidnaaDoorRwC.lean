/-
  ReadComplex: the law, walked out of both sides.
-/
import Derived.Test.YtcbfefamemidnaaDoorRc
namespace Go.Proofs.YtcbfefamemidnaaDoor
open Go.RowKit Go.Lib
set_option linter.unusedVariables false
set_option linter.unusedSimpArgs false

theorem rlX_len (l : List UInt8) : (rlX l).length ≤ 256 := by
  unfold rlX
  split
  · simp
  · split
    · rename_i h1 h2
      unfold rlB at h2
      rw [decide_eq_false h1, Bool.false_or, Bool.and_eq_true, decide_eq_true_iff] at h2
      simpa using h2.1
    · simp
theorem pw_drewN {w : World} {B e s n q : Nat} {v : Value} {xs : List Value} (h : w.ownsRow B e s v n xs) : (w.drewN q).ownsRow B e s v n xs := h
theorem bl_drewN {B : Nat} {a w : World} (h : Below B a w) (n : Nat) : Below B a (w.drewN n) := ⟨h.os, h.tape, h.output, h.size, h.block⟩
set_option maxHeartbeats 4000000 in
theorem fnExactReadComplex_walk (s : ByteArray) (w : World) (hm : s.size ≤ maxLen) (hL : laidMet Tryd.prog Rows.fnExactReadComplexRow.laid w) (hS : w.ShapedOpen Tryd.prog) :
    Calls Tryd.prog 10 #[.string s] w fun e w' => e = .returned (.bool true) ∧ Below w.heap.size w w' := by
  unfold maxLen at hm
  by_cases hs : s.size ≤ 1048576
  · have HE : Hid (EnvF w) := ⟨db_rc hL, errs_rc hL, mx_of hS⟩
    clear hL hS hm
    obtain ⟨X, hX⟩ : ∃ X, X = rlX s.data.toList := ⟨_, rfl⟩
    obtain ⟨B, hB⟩ : ∃ B, B = rlB s.data.toList := ⟨_, rfl⟩
    obtain ⟨n, hn⟩ : ∃ n, n = X.length := ⟨_, rfl⟩
    have hnM : n ≤ 256 := by rw [hn, hX]; exact rlX_len _
    have HSP : Hid (∀ W : World, Calls Tryd.prog 33 #[.string s] W fun e w' => ∃ a c, e = .returned (.tuple #[.slice a n c, .bool B]) ∧ w'.ownsRow W.heap.size 68 1 (.slice a n c) n (X.map mkC) ∧ Below W.heap.size W w') := fun W => by subst hn; subst hX; subst hB; exact specRl_any s W hs
    have HIM : Hid (∀ W : World, EnvF W → Calls Tryd.prog 34 #[.string s] W fun e w' => ∃ a c, e = .returned (.tuple #[.slice a n c, .bool B]) ∧ w'.ownsRow W.heap.size 68 1 (.slice a n c) n (X.map mkC) ∧ Below W.heap.size W w') := fun W hE => by subst hn; subst hX; subst hB; exact implRl_any s W hs hE
    clear hX hB hn
    go_enter Tryd.func10, Tryd.ntmps10
    go_wp2_with (go_at_call 33; refine (HSP.out _).mono ?_; rintro e w1 ⟨a1, c1, rfl, ho1, hb1⟩; refine Hid.out ?_)
    refine Lib.hid ?_
    go_wp2_with (go_at_call 34; refine (HIM.out _ (HE.out.below hb1)).mono ?_; rintro e w2 ⟨a2, c2, rfl, ho2, hb2⟩; refine Hid.out ?_)
    refine Lib.hid ?_
    have hB2 := hb1.trans (hb2.mono hb1.size)
    have hx1 := pw_below ho1 hb2
    have hr1 := (row_of_ownC hx1).2
    have hr2 := (row_of_ownC ho2).2
    have HNE : Hid (∀ j, (Value.slice a1 n c1).ownBlock = some j → (Value.slice a2 n c2).ownBlock ≠ some j) := fun j h1 h2 => by
      have k1 := (ho1.lt j h1).2
      have k2 := (ho2.lt j h2).1
      omega
    go_wp2_with (go_at_call 35; refine (eqC_same _ _ _ _ _ _ _ hr2 hr1 (by omega)).mono ?_; rintro e w3 ⟨rfl, n3, rfl⟩; refine Hid.out ?_)
    refine Lib.hid ?_
    have ho2' := pw_drewN (q := n3) ho2
    have hx1' := pw_drewN (q := n3) hx1
    have hB3 := bl_drewN hB2 n3
    have hz1 := hb1.size
    clear hr1 hr2 ho1 hb1 hx1 hB2
    generalize w2.drewN n3 = w3 at *
    go_wp2_with (go_at_call 36; refine (markC_any _ _ _ _ X 1 _ ho2' (by omega) (by omega) (by omega)).mono ?_; rintro e w4 ⟨rfl, ho4, hg4⟩; refine Hid.out ?_)
    refine Lib.hid ?_
    have hB4 : Below w.heap.size w w4 := hB3.grown hg4 hB3.size (fun j hj => by have := (ho2.lt j hj).1; have := hb2.size; have := hB3.size; omega)
    have hx4 := pw_grown hx1' hg4 HNE.out
    have hr4 := (row_of_ownC ho4).2
    have hx4r := (row_of_ownC hx4).2
    clear hx1' hg4 ho2' ho2 hb2 hB3
    go_wp2_with (go_at_call 37; refine (heldC_any _ _ _ 1 _ hr4 (by omega) (by omega) (by omega)).mono ?_; rintro e w5 ⟨rfl, rfl⟩; refine Hid.out ?_)
    refine Lib.hid ?_
    go_wp2_with (go_at_call 34; refine (HIM.out _ (HE.out.below hB4)).mono ?_; rintro e w6 ⟨a3, c3, rfl, ho6, hb6⟩; refine Hid.out ?_)
    refine Lib.hid ?_
    have hB6 := hB4.trans (hb6.mono hB4.size)
    have hr6 := (row_of_ownC ho6).2
    have hx6 := (row_of_ownC (pw_below hx4 hb6)).2
    have hh6 := pw_below ho4 hb6
    clear ho6 hr4 hx4r
    go_wp2_with (go_at_call 35; refine (eqC_same _ _ _ _ _ _ _ hr6 hx6 (by omega)).mono ?_; rintro e w7 ⟨rfl, n7, rfl⟩; refine Hid.out ?_)
    refine Lib.hid ?_
    have hr7 := (row_of_ownC (pw_drewN (q := n7) hh6)).2
    have hB7 := bl_drewN hB6 n7
    clear hr6 hx6 hh6 hx4 ho4 hb6 hB6 hB4
    generalize w6.drewN n7 = w7 at *
    go_wp2_with (go_at_call 37; refine (heldC_any _ _ _ 1 _ hr7 (by omega) (by omega) (by omega)).mono ?_; rintro e w8 ⟨rfl, rfl⟩)
    go_ret
    exact ⟨rfl, hB7⟩
  · clear hL hS
    go_enter Tryd.func10, Tryd.ntmps10
    go_wp2_with fail
    go_ret
    exact ⟨rfl, Below.refl _ _⟩
end Go.Proofs.YtcbfefamemidnaaDoor
