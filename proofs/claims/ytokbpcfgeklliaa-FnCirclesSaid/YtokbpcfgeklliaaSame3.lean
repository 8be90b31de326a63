/-
  sameFloat of the laws: it answers yes where both words are one under the canonical form.
-/
import Derived.Test.YtokbpcfgeklliaaNum3
namespace Go.Proofs.Ytokbpcfgeklliaa
open Go.RowKit

set_option maxHeartbeats 400000 in
theorem sameFloat_any (a b : Nat) (w : World) (h : cn .f64 a = cn .f64 b) :
    Calls Try.prog 10 #[.float .f64 a, .float .f64 b] w fun e w' => e = .returned (.bool true) ∧ ∃ n, w' = w.drewN n := by
  have ha := order_self .f64 a
  have hb := order_self .f64 b
  have hab : isN .f64 a = isN .f64 b := by rw [← isN_cn .f64 a, h, isN_cn]
  cases hn : isN .f64 a
  · have hb' : isN .f64 b = false := by rw [← hab, hn]
    obtain rfl : a = b := by rw [cn_of_not hn, cn_of_not hb'] at h; exact h
    rw [hn, if_neg (by simp)] at ha
    clear hb hb' hab hn h
    cases h0 : (FloatKind.f64.format.order a 0 == some .eq)
    · go_enter Try.func10, Try.ntmps10
      go_wp2
      go_ret
      exact ⟨rfl, 0, rfl⟩
    · obtain ⟨c, hc⟩ : ∃ c, ∀ W : World, (FloatKind.f64.format.order (fv .quo .f64 4607182418800017408 a W) 0 == some .gt) = c :=
        ⟨_, fun W => by rw [← order_cn, cn_fv]⟩
      go_enter Try.func10, Try.ntmps10
      go_wp2
      go_ret
      exact ⟨by simp, _, rfl⟩
  · have hb' : isN .f64 b = true := by rw [← hab, hn]
    rw [hn, if_pos rfl] at ha
    rw [hb', if_pos rfl] at hb
    clear hb' hab hn h
    go_enter Try.func10, Try.ntmps10
    go_wp2
    go_ret
    exact ⟨rfl, 0, rfl⟩
end Go.Proofs.Ytokbpcfgeklliaa
