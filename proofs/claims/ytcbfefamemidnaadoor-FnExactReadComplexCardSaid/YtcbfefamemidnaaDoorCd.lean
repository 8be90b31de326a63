/-
  readComplex: a complex number read from its sixteen digits, the program's side.
-/
import Derived.Test.YtcbfefamemidnaaDoorCs
import Derived.Test.YtcbfefamemidnaaDoorFd
import Derived.Lib.Split
namespace Go.Proofs.YtcbfefamemidnaaDoor
open Go.RowKit Go.Lib
set_option linter.unusedVariables false
set_option linter.unusedSimpArgs false

def cdB (l : List UInt8) : Bool := decide (l.length = 16) && (fdB (l.take 8) && fdB (l.drop 8))
def cdN (l : List UInt8) : Nat × Nat := (fdN (l.take 8), fdN (l.drop 8))
def cdPost (l : List UInt8) (w : World) (e : Ending) (w' : World) : Prop := ∃ z, e = .returned (.tuple #[mkC z, .bool (cdB l)]) ∧ (cdB l = true → z = cdN l) ∧ Below w.heap.size w w'
theorem cd_no {l : List UInt8} {w w' : World} {a b : Nat} (h : cdB l = false) (hb : Below w.heap.size w w') : cdPost l w (.returned (.tuple #[.complex .f32 a b, .bool false])) w' := ⟨(a, b), by rw [h], (fun h2 => by rw [h] at h2; cases h2), hb⟩
theorem cd_yes {l : List UInt8} {w w' : World} {a b : Nat} (h : cdB l = true) (h1 : a = fdN (l.take 8)) (h2 : b = fdN (l.drop 8)) (hb : Below w.heap.size w w') : cdPost l w (.returned (.tuple #[.complex .f32 a b, .bool true])) w' := ⟨(a, b), by rw [h], (fun _ => by rw [h1, h2]; rfl), hb⟩
theorem cdB_len {l : List UInt8} (h : l.length ≠ 16) : cdB l = false := by unfold cdB; rw [decide_eq_false h]; rfl
theorem cdB_of {l : List UInt8} (h : l.length = 16) : cdB l = (fdB (l.take 8) && fdB (l.drop 8)) := by unfold cdB; rw [decide_eq_true h]; rfl
theorem left_data (s : ByteArray) : (s.extract 0 8).data.toList = s.data.toList.take 8 := extract_from_zero s 8
theorem right_data (s : ByteArray) : (s.extract 8 s.size).data.toList = s.data.toList.drop 8 := extract_to_end s 8
set_option maxHeartbeats 1000000 in
theorem readComplex_any (s : ByteArray) (w : World) (hs : s.size ≤ 1048577) (hE : EnvF w) :
    Calls Tryd.prog 61 #[.string s] w (cdPost s.data.toList w) := by
  by_cases h16 : s.size = 16
  · have hl : s.data.toList.length = 16 := by simpa using h16
    have hL : ∀ W : World, EnvF W → Calls Tryd.prog 58 #[.string (s.extract 0 8)] W (fdPost (s.data.toList.take 8) W) := fun W hW => by
      have := readBits_any (s.extract 0 8) W (by simp; omega) hW
      rwa [left_data] at this
    have hR : ∀ W : World, EnvF W → Calls Tryd.prog 58 #[.string (s.extract 8 s.size)] W (fdPost (s.data.toList.drop 8) W) := fun W hW => by
      have := readBits_any (s.extract 8 s.size) W (by simp; omega) hW
      rwa [right_data] at this
    have HC := Lib.hid (cdB_of hl)
    have HE := Lib.hid hE
    have h16b : ((s.size : Int) != 16) = false := by simp; omega
    have h8i : (8 : Int) ≤ (s.size : Int) := by omega
    cases h1 : fdB (s.data.toList.take 8) <;> cases h2 : fdB (s.data.toList.drop 8)
    all_goals
      have hL2 := fun W hW => (hL W hW).mono fun e w' h => (show ∃ z, e = Ending.returned (.tuple #[.float .f32 z, .bool _]) ∧ (_ = true → z = fdN (s.data.toList.take 8)) ∧ Below W.heap.size W w' from by unfold fdPost at h; rw [h1] at h; exact h)
      have hR2 := fun W hW => (hR W hW).mono fun e w' h => (show ∃ z, e = Ending.returned (.tuple #[.float .f32 z, .bool _]) ∧ (_ = true → z = fdN (s.data.toList.drop 8)) ∧ Below W.heap.size W w' from by unfold fdPost at h; rw [h2] at h; exact h)
      have HL2 := Lib.hid hL2
      have HR2 := Lib.hid hR2
      have HCC := HC.out
      rw [h1, h2] at HCC
      have HB := Lib.hid HCC
      clear hL hR hL2 hR2 hE hl h1 h2 h16 HCC
      go_enter Tryd.func61, Tryd.ntmps61
      go_wp2_with (go_at_call 58; refine (HL2.out _ HE.out).mono ?_; rintro e w1 ⟨z1, rfl, hz1, hb1⟩; refine Hid.out ?_)
      refine Lib.hid ?_
      have HZ1 := Lib.hid hz1
      clear hz1
      go_wp2_with (go_at_call 58; refine (HR2.out _ (HE.out.below hb1)).mono ?_; rintro e w2 ⟨z2, rfl, hz2, hb2⟩; refine Hid.out ?_)
      refine Lib.hid ?_
      have HZ2 := Lib.hid hz2
      clear hz2
      go_wp2
      go_ret2
      first
        | exact cd_no HB.out (hb1.trans (hb2.mono hb1.size))
        | exact cd_yes HB.out (by first | rfl | exact HZ1.out rfl | exact HZ1.out trivial) (by first | rfl | exact HZ2.out rfl | exact HZ2.out trivial) (hb1.trans (hb2.mono hb1.size))
  · have HB := Lib.hid (cdB_len (l := s.data.toList) (by simpa using h16))
    have h16b : ((s.size : Int) != 16) = true := by simp; omega
    clear h16 hE
    go_enter Tryd.func61, Tryd.ntmps61
    go_wp2
    go_ret2
    exact cd_no HB.out (Below.refl _ _)
end Go.Proofs.YtcbfefamemidnaaDoor
