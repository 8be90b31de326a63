/-
  The small functions of Circles walked: parts, products, powers, angles of complex numbers; gaps.
-/
import Derived.Test.YtokbpcfgeklliaaBy
import Derived.Test.YtokbpcfgeklliaaAngI
import Derived.Test.YtokbpcfgeklliaaCiD
namespace Go.Proofs.Ytokbpcfgeklliaa
open Go.RowKit
set_option linter.unusedVariables false
set_option linter.unusedSimpArgs false

theorem fv_some {op : BinOp} {k : FloatKind} {x y r : Nat} (h : floatBits op k x y = some r) : (∀ W : World, fv op k x y W = r) ∧ fd op k x y = 0 :=
  ⟨fun W => by unfold fv; rw [h]; rfl, by unfold fd; rw [h]; rfl⟩
theorem cv_some {s k : FloatKind} {b r : Nat} (h : floatToFloatBits s b k = some r) : (∀ W : World, cv s k b W = r) ∧ cd s k b = 0 :=
  ⟨fun W => by unfold cv; rw [h]; rfl, by unfold cd; rw [h]; rfl⟩
theorem cn_lit {k : FloatKind} {a c : Nat} (h : cn k a = c) (hc : isN k c = false) : a = c := by
  unfold cn at h
  cases ha : isN k a
  · rw [ha] at h; exact h
  · rw [ha, if_pos rfl] at h
    rw [← h, isN_qn] at hc
    cases hc
set_option maxHeartbeats 400000 in
theorem parts_any (re im a b : Nat) (w : World) (h1 : wid re = some a) (h2 : wid im = some b) :
    Calls Try.prog 54 #[.complex .f32 re im] w fun e w' => e = .returned (.tuple #[.float .f64 a, .float .f64 b]) ∧ w' = w := by
  obtain ⟨v1, d1⟩ := cv_some h1
  obtain ⟨v2, d2⟩ := cv_some h2
  have hz := World.drewN_zero
  clear h1 h2
  go_enter Try.func54, Try.ntmps54
  go_wp2
  go_ret2
  exact ⟨rfl, rfl⟩
set_option maxHeartbeats 400000 in
theorem power_any (re im a b aa bb s : Nat) (w : World) (h1 : wid re = some a) (h2 : wid im = some b) (h3 : floatBits .mul .f64 a a = some aa) (h4 : floatBits .mul .f64 b b = some bb) (h5 : floatBits .add .f64 aa bb = some s) :
    Calls Try.prog 40 #[.complex .f32 re im] w fun e w' => e = .returned (.float .f64 s) ∧ w' = w := by
  obtain ⟨v3, d3⟩ := fv_some h3
  obtain ⟨v4, d4⟩ := fv_some h4
  obtain ⟨v5, d5⟩ := fv_some h5
  have hz := World.drewN_zero
  clear h3 h4 h5
  go_enter Try.func40, Try.ntmps40
  go_wp2_with fail
  refine (parts_any re im a b _ h1 h2).mono ?_
  rintro e w' ⟨rfl, rfl⟩
  go_wp2
  go_ret
  exact ⟨rfl, rfl⟩
set_option maxHeartbeats 400000 in
theorem PowerOf_any (re im a b aa bb s p : Nat) (w : World) (h1 : wid re = some a) (h2 : wid im = some b) (h3 : floatBits .mul .f64 a a = some aa) (h4 : floatBits .mul .f64 b b = some bb) (h5 : floatBits .add .f64 aa bb = some s) (h6 : nar s = some p) :
    Calls Try.prog 22 #[.complex .f32 re im] w fun e w' => e = .returned (.float .f32 p) ∧ w' = w := by
  obtain ⟨v6, d6⟩ := cv_some h6
  have hz := World.drewN_zero
  clear h6
  go_enter Try.func22, Try.ntmps22
  go_wp2_with fail
  refine (power_any re im a b aa bb s _ h1 h2 h3 h4 h5).mono ?_
  rintro e w' ⟨rfl, rfl⟩
  go_wp2
  go_ret
  exact ⟨rfl, rfl⟩
set_option maxHeartbeats 1000000 in
theorem product_any (p q z : Nat × Nat) (w : World) (h : mulC p q = some z) :
    Calls Try.prog 24 #[.complex .f32 p.1 p.2, .complex .f32 q.1 q.2] w fun e w' => e = .returned (.complex .f32 z.1 z.2) ∧ w' = w := by
  obtain ⟨a, b, c, d, ac, bd, re, ad, bc, im, h1, h2, h3, h4, h5, h6, h7, h8, h9, h10, h11, h12⟩ := mul_out h
  clear h
  obtain ⟨p1, p2⟩ := p
  obtain ⟨q1, q2⟩ := q
  obtain ⟨z1, z2⟩ := z
  have hp : Calls Try.prog 41 #[.complex .f32 p1 p2, .complex .f32 q1 q2] w fun e w' => e = .returned (.tuple #[.float .f64 re, .float .f64 im]) ∧ w' = w := by
    obtain ⟨v5, d5⟩ := fv_some h5
    obtain ⟨v6, d6⟩ := fv_some h6
    obtain ⟨v7, d7⟩ := fv_some h7
    obtain ⟨v8, d8⟩ := fv_some h8
    obtain ⟨v9, d9⟩ := fv_some h9
    obtain ⟨v10, d10⟩ := fv_some h10
    have hz := World.drewN_zero
    clear h5 h6 h7 h8 h9 h10
    go_enter Try.func41, Try.ntmps41
    go_wp2_with fail
    refine (parts_any p1 p2 a b _ h1 h2).mono ?_
    rintro e w' ⟨rfl, rfl⟩
    go_wp2_with fail
    refine (parts_any q1 q2 c d _ h3 h4).mono ?_
    rintro e w' ⟨rfl, rfl⟩
    go_wp2
    go_ret2
    exact ⟨rfl, rfl⟩
  obtain ⟨v11, d11⟩ := cv_some h11
  obtain ⟨v12, d12⟩ := cv_some h12
  have hz := World.drewN_zero
  clear h1 h2 h3 h4 h5 h6 h7 h8 h9 h10 h11 h12
  go_enter Try.func24, Try.ntmps24
  go_wp2_with fail
  refine hp.mono ?_
  rintro e w' ⟨rfl, rfl⟩
  go_wp2
  go_ret
  exact ⟨rfl, rfl⟩
theorem gap_cases {a b g : Nat} (h : gapC a b = some g) : ((FloatKind.f64.format.order a b == some .lt) = true ∧ floatBits .sub .f64 b a = some g) ∨ ((FloatKind.f64.format.order a b == some .lt) = false ∧ floatBits .sub .f64 a b = some g) := by
  unfold gapC at h
  cases hc : FloatKind.f64.format.order a b == some .lt
  · rw [hc] at h; exact .inr ⟨rfl, h⟩
  · rw [hc] at h; exact .inl ⟨rfl, h⟩
set_option maxHeartbeats 400000 in
theorem Gap_any (a b g : Nat) (w : World) (h : gapC a b = some g) :
    Calls Try.prog 21 #[.float .f64 a, .float .f64 b] w fun e w' => e = .returned (.float .f64 g) ∧ w' = w := by
  rcases gap_cases h with ⟨h1, h2⟩ | ⟨h1, h2⟩
  all_goals
    clear h
    obtain ⟨v, d⟩ := fv_some h2
    have hz := World.drewN_zero
    clear h2
    go_enter Try.func21, Try.ntmps21
    go_wp2
    go_ret
    exact ⟨rfl, rfl⟩
set_option maxHeartbeats 400000 in
theorem Near_any (x y : Nat × Nat) (w : World) (h1 : nearC x.1 y.1 = true) (h2 : nearC x.2 y.2 = true) :
    Calls Try.prog 23 #[.complex .f32 x.1 x.2, .complex .f32 y.1 y.2, .float .f64 4547007122018943789] w fun e w' => e = .returned (.bool true) ∧ w' = w := by
  obtain ⟨a, b, g, k1, k2, k3, k4⟩ := near_out h1
  obtain ⟨a', b', g', m1, m2, m3, m4⟩ := near_out h2
  obtain ⟨x1, x2⟩ := x
  obtain ⟨y1, y2⟩ := y
  obtain ⟨v1, d1⟩ := cv_some k1
  obtain ⟨v2, d2⟩ := cv_some k2
  obtain ⟨v3, d3⟩ := cv_some m1
  obtain ⟨v4, d4⟩ := cv_some m2
  have t1 : (FloatKind.f64.format.order g 4547007122018943789 == some .lt || FloatKind.f64.format.order g 4547007122018943789 == some .eq) = true := k4
  have t2 : (FloatKind.f64.format.order g' 4547007122018943789 == some .lt || FloatKind.f64.format.order g' 4547007122018943789 == some .eq) = true := m4
  have hz := World.drewN_zero
  clear h1 h2 k1 k2 m1 m2 k4 m4
  go_enter Try.func23, Try.ntmps23
  go_wp2_with fail
  refine (Gap_any a b g _ k3).mono ?_
  rintro e w' ⟨rfl, rfl⟩
  go_wp2_with fail
  refine (Gap_any a' b' g' _ m3).mono ?_
  rintro e w' ⟨rfl, rfl⟩
  go_wp2
  go_ret
  exact ⟨rfl, rfl⟩
set_option maxHeartbeats 400000 in
theorem AngleOf_any (re im c : Nat) (w : World) (h1 : (Lit.float .f32 re).wf = true) (h2 : (Lit.float .f32 im).wf = true) (h3 : angF im re = c) (h4 : isN .f32 c = false) :
    Calls Try.prog 20 #[.complex .f32 re im] w fun e w' => e = .returned (.float .f32 c) ∧ Below w.heap.size w w' := by
  go_enter Try.func20, Try.ntmps20
  go_wp2_with fail
  refine (implAng_any _ _ _ h2 h1).mono ?_
  rintro e w1 ⟨r, rfl, hr, hb⟩
  obtain rfl : r = c := cn_lit (hr.trans h3) h4
  have HB := Lib.hid hb
  clear hr hb h1 h2 h3 h4
  go_wp2
  go_ret
  exact ⟨rfl, HB.out⟩
end Go.Proofs.Ytokbpcfgeklliaa
