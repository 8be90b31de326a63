/-
  Circles: the law walked, over all bytes.
-/
import Derived.Test.YtokbpcfgeklliaaCiL
namespace Go.Proofs.Ytokbpcfgeklliaa
open Go.RowKit
set_option linter.unusedVariables false
set_option linter.unusedSimpArgs false

set_option maxRecDepth 100000 in
set_option maxHeartbeats 4000000 in
theorem circles_in (a b : Option Addr) (len cap len' cap' : Nat) (xs ys : List Int) (w0 : World) (h_a : IsBRow w0 a len cap xs) (hx : ∀ z ∈ xs, 0 ≤ z ∧ z ≤ 255) (h_b : IsBRow w0 b len' cap' ys) (hy : ∀ z ∈ ys, 0 ≤ z ∧ z ≤ 255) (hlong : longB len len' = false) :
    Calls Try.prog 7 #[.slice a len cap, .slice b len' cap'] w0 fun e w' => e = .returned (.bool true) ∧ Below w0.heap.size w0 w' := by
  have hl : len ≤ maxLen := Nat.le_trans h_a.2.1 h_a.2.2.1
  have hl' : len' ≤ maxLen := Nat.le_trans h_b.2.1 h_b.2.2.1
  have hz := World.drewN_zero
  go_enter Try.func7, Try.ntmps7
  go_wp2_with fail
  refine (Long_any _ _ _ _ _ _ _ hl hl').mono ?_
  rintro e w' ⟨rfl, hw⟩
  subst w'
  go_wp2_with fail
  refine (At0_256 _ _ _ xs _ h_a hx hl).mono ?_
  rintro e w' ⟨z0, lo0, hi0, rfl, hw⟩
  subst w'
  obtain ⟨A, hA⟩ : ∃ A, A = z0 - 128 := ⟨_, rfl⟩
  have A0 : -128 ≤ A := by omega
  have A1 : A ≤ 127 := by omega
  have wA : IntKind.i64.wrap (z0 - 128) = A := by rw [IntWalk.i64_in _ (by omega)]; exact hA.symm
  clear hA lo0 hi0
  go_wp2_with fail
  refine (At1_256 _ _ _ xs _ h_a hx hl).mono ?_
  rintro e w' ⟨z1, lo1, hi1, rfl, hw⟩
  subst w'
  obtain ⟨B, hB⟩ : ∃ B, B = z1 - 128 := ⟨_, rfl⟩
  have B0 : -128 ≤ B := by omega
  have B1 : B ≤ 127 := by omega
  have wB : IntKind.i64.wrap (z1 - 128) = B := by rw [IntWalk.i64_in _ (by omega)]; exact hB.symm
  clear hB lo1 hi1
  obtain ⟨C, hC⟩ : ∃ C, C = A + B := ⟨_, rfl⟩
  have C0 : -256 ≤ C := by omega
  have C1 : C ≤ 254 := by omega
  have wC : IntKind.i64.wrap (A + B) = C := by rw [IntWalk.i64_in _ (by omega)]; exact hC.symm
  have ixC : (C % 64).toNat = ((A % 64).toNat + (B % 64).toNat) % 64 := by omega
  clear hC
  -- the facts
  obtain ⟨qa, qd⟩ := fv_some (tq_some (a := A) (by omega) (by omega)).1
  obtain ⟨qb, qe⟩ := fv_some (tq_some (a := B) (by omega) (by omega)).1
  obtain ⟨qc, qf⟩ := fv_some (tq_some (a := C) C0 C1).1
  change ∀ W : World, fv .quo .f64 (floatOfInt .f64 A) 4634204016564240384 W = tq A at qa
  change ∀ W : World, fv .quo .f64 (floatOfInt .f64 B) 4634204016564240384 W = tq B at qb
  change ∀ W : World, fv .quo .f64 (floatOfInt .f64 C) 4634204016564240384 W = tq C at qc
  change fd .quo .f64 (floatOfInt .f64 A) 4634204016564240384 = 0 at qd
  change fd .quo .f64 (floatOfInt .f64 B) 4634204016564240384 = 0 at qe
  change fd .quo .f64 (floatOfInt .f64 C) 4634204016564240384 = 0 at qf
  have PA := Lib.hid (fun W => Ph_lit (a := A) (by omega) (by omega) W)
  have PB := Lib.hid (fun W => Ph_lit (a := B) (by omega) (by omega) W)
  have PC := Lib.hid (fun W => Ph_lit (a := C) C0 C1 W)
  obtain ⟨z, hzm, hn1, hn2⟩ := prod_facts (ix_lt A) (ix_lt B)
  rw [← ixC] at hn1 hn2
  obtain ⟨n1, n2, f1, f2, n5, han⟩ := word_all (ix_lt A)
  obtain ⟨pa, pb, paa, pbb, ps, pp, pg, pd, k1, k2, k3, k4, k5, k6, k7, k8, k9⟩ := pow_all (ix_lt A)
  obtain ⟨u, t1, turn, t2, wh, d, m1, m2, m3, m4, m5, m6, m7, m8, m9, m10⟩ := ang_all A0 A1
  have hreal := real_all A0 A1
  generalize phT (A % 64).toNat = P at *
  generalize phT (B % 64).toNat = Q at *
  generalize phT (C % 64).toNat = R at *
  generalize aT (A % 64).toNat = c at *
  obtain ⟨P1, P2⟩ := P
  obtain ⟨Q1, Q2⟩ := Q
  obtain ⟨R1, R2⟩ := R
  obtain ⟨Z1, Z2⟩ := z
  have CP := Lib.hid (fun W => PowerOf_any P1 P2 pa pb paa pbb ps pp W k1 k2 k3 k4 k5 k6)
  have CM := Lib.hid (fun W => product_any (P1, P2) (Q1, Q2) (Z1, Z2) W hzm)
  have CN := Lib.hid (fun W => Near_any (Z1, Z2) (R1, R2) W hn1 hn2)
  have CA := Lib.hid (fun W => AngleOf_any P1 P2 c W f1 f2 han n5)
  have CG := Lib.hid (fun W => Gap_any pg K1 pd W k8)
  have CH := Lib.hid (fun W => Gap_any turn (floatOfInt .f64 (wh - 10000)) d W m9)
  obtain ⟨v7, d7⟩ := cv_some k7
  obtain ⟨v1, e1⟩ := cv_some m1
  obtain ⟨v2, e2⟩ := fv_some m2
  obtain ⟨v3, e3⟩ := fv_some m3
  obtain ⟨v4, e4⟩ := fv_some m4
  change ∀ W : World, fv .mul .f64 u 4634204016564240384 W = t1 at v2
  change fd .mul .f64 u 4634204016564240384 = 0 at e2
  change ∀ W : World, fv .add .f64 turn 4666723447345250304 W = t2 at v4
  change fd .add .f64 turn 4666723447345250304 = 0 at e4
  have hconv := fun W : World => run_convert_float_int (P := Try.prog) W 25 2 .f64 .i64 t2 wh (by rw [Try.underlying25]; rfl) Try.underlying2 m5
  have g1 : (FloatKind.f64.format.order pd 4547007122018943789 == some .gt) = false := k9
  have g2 : (FloatKind.f64.format.order d 4562254508917369340 == some .gt) = false := m10
  obtain ⟨V, hV⟩ : ∃ V, V = wh - 10000 := ⟨_, rfl⟩
  have wV : IntKind.i64.wrap (wh - 10000) = V := by rw [IntWalk.i64_in _ (by omega)]; exact hV.symm
  rw [← hV] at m8 CH
  clear hV m6 m7 m9 m5 m1 m2 m3 m4 k1 k2 k3 k4 k5 k6 k7 k8 k9 m10 hzm hn1 hn2 n1 n2 f1 f2 n5 han ixC
  have S1 := Lib.hid A0
  have S2 := Lib.hid A1
  clear A0 A1 B0 B1 C0 C1
  go_wp2_with fail
  refine (PA.out _).mono ?_
  rintro e w' ⟨x1, rfl, rfl⟩
  go_wp2_with fail
  refine (PB.out _).mono ?_
  rintro e w' ⟨x2, rfl, rfl⟩
  go_wp2_with fail
  refine (PC.out _).mono ?_
  rintro e w' ⟨x3, rfl, rfl⟩
  go_wp2_with fail
  refine (CA.out _).mono ?_
  rintro e w1 ⟨rfl, hb1⟩
  have HB := Lib.hid hb1
  clear hb1
  go_wp2_with fail
  refine (CP.out _).mono ?_
  rintro e w' ⟨rfl, hw⟩
  subst w'
  go_wp2_with fail
  refine (CG.out _).mono ?_
  rintro e w' ⟨rfl, hw⟩
  subst w'
  go_wp2_with fail
  refine (CM.out _).mono ?_
  rintro e w' ⟨rfl, hw⟩
  subst w'
  go_wp2_with fail
  refine (CN.out _).mono ?_
  rintro e w' ⟨rfl, hw⟩
  subst w'
  go_wp2_with fail
  refine (CH.out _).mono ?_
  rintro e w' ⟨rfl, hw⟩
  subst w'
  have h_b1 : IsBRow w1 b len' cap' ys := brow_below (w := w0.drewN (x1 + x2 + x3)) h_b HB.out
  by_cases ht : A.tmod 16 = 0
  · obtain ⟨dr, gr, r1, r2, hr⟩ := hreal.resolve_left (fun h => h ht)
    obtain ⟨vr, er⟩ := cv_some r1
    have CR := Lib.hid (fun W => Gap_any dr 0 gr W r2)
    clear r1 r2 hreal
    cases h0 : FloatKind.f64.format.order gr 0 == some .eq
    · have h1 : (FloatKind.f64.format.order gr 4607182418800017408 == some .eq) = true := by rcases hr with hr | hr; rw [h0] at hr; cases hr; exact hr
      have h2 : (FloatKind.f64.format.order gr 0 != some .eq) = true := by simp only [bne, h0]; rfl
      have h3 : (FloatKind.f64.format.order gr 4607182418800017408 != some .eq) = false := by simp only [bne, h1]; rfl
      clear hr
      go_wp2_with fail
      refine (CR.out _).mono ?_
      rintro e w' ⟨rfl, hw⟩
      subst w'
      go_wp2_with fail
      refine (CR.out _).mono ?_
      rintro e w' ⟨rfl, hw⟩
      subst w'
      go_wp2_with fail
      refine (At0_200 _ _ _ ys _ h_b1 hy hl').mono ?_
      rintro e w' ⟨y0, lo, hi, rfl, hw⟩
      subst w'
      obtain ⟨I, hI0, hI1, hI⟩ : ∃ I : Nat, 1 ≤ I ∧ I ≤ 200 ∧ 1 + y0 = (I : Int) := ⟨(1 + y0).toNat, by omega, by omega, by omega⟩
      have wI : IntKind.i64.wrap (1 + y0) = (I : Int) := by rw [IntWalk.i64_in _ (by omega)]; exact hI
      clear lo hi hI
      obtain ⟨qx, qy⟩ := fv_some (X3_quo hI0 hI1)
      have HI0 := Lib.hid hI0
      have HI1 := Lib.hid hI1
      clear hI0 hI1
      go_wp2_with fail
      refine (At1_200 _ _ _ ys _ h_b1 hy hl').mono ?_
      rintro e w' ⟨y1, lo, hi, rfl, hw⟩
      subst w'
      obtain ⟨J, hJ0, hJ1, hJ⟩ : ∃ J : Nat, 1 ≤ J ∧ J ≤ 200 ∧ 1 + y1 = (J : Int) := ⟨(1 + y1).toNat, by omega, by omega, by omega⟩
      have wJ : IntKind.i64.wrap (1 + y1) = (J : Int) := by rw [IntWalk.i64_in _ (by omega)]; exact hJ
      clear lo hi hJ
      obtain ⟨qz, qw⟩ := fv_some (X3_quo hJ0 hJ1)
      obtain ⟨qm1, qm2⟩ := fv_some (X3_mul HI0.out HI1.out hJ0 hJ1)
      obtain ⟨m, n, o, b1, b2, b3, b4, b5, b6, l1, l2, l3, l4, l5, l6, l7, l8⟩ := tenths_law HI0.out HI1.out hJ0 hJ1
      clear hJ0 hJ1
      generalize X3 (8 * I) = X at *
      generalize X3 (8 * J) = Y at *
      generalize X3 (I * J) = XY at *
      have T1 := Lib.hid (fun W => ten_lit (x := X) W b2 b1)
      have T2 := Lib.hid (fun W => ten_lit (x := Y) W b4 b3)
      have T3 := Lib.hid (fun W => ten_lit (x := XY) W b6 b5)
      have T4 := Lib.hid (fun W => ten_lit (x := 1065353216) W tenths_one.1 tenths_one.2)
      have wM : IntKind.i64.wrap (m + n) = m + n := IntWalk.i64_in _ (by omega)
      obtain ⟨s1, hs1⟩ : ∃ s1, s1 = m + n := ⟨_, rfl⟩
      have wN : IntKind.i64.wrap (m + n) = s1 := by rw [IntWalk.i64_in _ (by omega)]; exact hs1.symm
      obtain ⟨s2, hs2⟩ : ∃ s2, s2 = s1 - o := ⟨_, rfl⟩
      have wO : IntKind.i64.wrap (s1 - o) = s2 := by rw [IntWalk.i64_in _ (by omega)]; exact hs2.symm
      obtain ⟨s3, hs3⟩ : ∃ s3, s3 = o - m := ⟨_, rfl⟩
      have wP : IntKind.i64.wrap (o - m) = s3 := by rw [IntWalk.i64_in _ (by omega)]; exact hs3.symm
      obtain ⟨s4, hs4⟩ : ∃ s4, s4 = s3 - n := ⟨_, rfl⟩
      have wQ : IntKind.i64.wrap (s3 - n) = s4 := by rw [IntWalk.i64_in _ (by omega)]; exact hs4.symm
      have le2 : s2 ≤ 1 := by omega
      have le4 : s4 ≤ 1 := by omega
      clear wM hs1 hs2 hs3 hs4 b1 b2 b3 b4 b5 b6 l1 l2 l3 l4 l5 l6 l7 l8
      go_wp2_with fail
      refine (T1.out _).mono ?_
      rintro e w' ⟨k1, rfl, rfl⟩
      go_wp2_with fail
      refine (T2.out _).mono ?_
      rintro e w' ⟨k2, rfl, rfl⟩
      go_wp2_with fail
      refine (T3.out _).mono ?_
      rintro e w' ⟨k3, rfl, rfl⟩
      go_wp2_with fail
      refine (T4.out _).mono ?_
      rintro e w' ⟨k4, rfl, rfl⟩
      go_wp2_with fail
      refine (AngleOf_any 0 1065353216 1048576000 _ (by decide +kernel) (by decide +kernel) angle_i (by decide +kernel)).mono ?_
      rintro e w2 ⟨rfl, hb2⟩
      have HB2 := Lib.hid hb2
      clear hb2
      go_wp2_with fail
      refine (Same_no _).mono ?_
      rintro e w' ⟨rfl, hw⟩
      subst w'
      go_wp2
      go_ret
      exact ⟨rfl, circ_below HB.out HB2.out⟩
    · have h2 : (FloatKind.f64.format.order gr 0 != some .eq) = false := by simp only [bne, h0]; rfl
      clear hr
      go_wp2_with fail
      refine (CR.out _).mono ?_
      rintro e w' ⟨rfl, hw⟩
      subst w'
      go_wp2_with fail
      refine (At0_200 _ _ _ ys _ h_b1 hy hl').mono ?_
      rintro e w' ⟨y0, lo, hi, rfl, hw⟩
      subst w'
      obtain ⟨I, hI0, hI1, hI⟩ : ∃ I : Nat, 1 ≤ I ∧ I ≤ 200 ∧ 1 + y0 = (I : Int) := ⟨(1 + y0).toNat, by omega, by omega, by omega⟩
      have wI : IntKind.i64.wrap (1 + y0) = (I : Int) := by rw [IntWalk.i64_in _ (by omega)]; exact hI
      clear lo hi hI
      obtain ⟨qx, qy⟩ := fv_some (X3_quo hI0 hI1)
      have HI0 := Lib.hid hI0
      have HI1 := Lib.hid hI1
      clear hI0 hI1
      go_wp2_with fail
      refine (At1_200 _ _ _ ys _ h_b1 hy hl').mono ?_
      rintro e w' ⟨y1, lo, hi, rfl, hw⟩
      subst w'
      obtain ⟨J, hJ0, hJ1, hJ⟩ : ∃ J : Nat, 1 ≤ J ∧ J ≤ 200 ∧ 1 + y1 = (J : Int) := ⟨(1 + y1).toNat, by omega, by omega, by omega⟩
      have wJ : IntKind.i64.wrap (1 + y1) = (J : Int) := by rw [IntWalk.i64_in _ (by omega)]; exact hJ
      clear lo hi hJ
      obtain ⟨qz, qw⟩ := fv_some (X3_quo hJ0 hJ1)
      obtain ⟨qm1, qm2⟩ := fv_some (X3_mul HI0.out HI1.out hJ0 hJ1)
      obtain ⟨m, n, o, b1, b2, b3, b4, b5, b6, l1, l2, l3, l4, l5, l6, l7, l8⟩ := tenths_law HI0.out HI1.out hJ0 hJ1
      clear hJ0 hJ1
      generalize X3 (8 * I) = X at *
      generalize X3 (8 * J) = Y at *
      generalize X3 (I * J) = XY at *
      have T1 := Lib.hid (fun W => ten_lit (x := X) W b2 b1)
      have T2 := Lib.hid (fun W => ten_lit (x := Y) W b4 b3)
      have T3 := Lib.hid (fun W => ten_lit (x := XY) W b6 b5)
      have T4 := Lib.hid (fun W => ten_lit (x := 1065353216) W tenths_one.1 tenths_one.2)
      have wM : IntKind.i64.wrap (m + n) = m + n := IntWalk.i64_in _ (by omega)
      obtain ⟨s1, hs1⟩ : ∃ s1, s1 = m + n := ⟨_, rfl⟩
      have wN : IntKind.i64.wrap (m + n) = s1 := by rw [IntWalk.i64_in _ (by omega)]; exact hs1.symm
      obtain ⟨s2, hs2⟩ : ∃ s2, s2 = s1 - o := ⟨_, rfl⟩
      have wO : IntKind.i64.wrap (s1 - o) = s2 := by rw [IntWalk.i64_in _ (by omega)]; exact hs2.symm
      obtain ⟨s3, hs3⟩ : ∃ s3, s3 = o - m := ⟨_, rfl⟩
      have wP : IntKind.i64.wrap (o - m) = s3 := by rw [IntWalk.i64_in _ (by omega)]; exact hs3.symm
      obtain ⟨s4, hs4⟩ : ∃ s4, s4 = s3 - n := ⟨_, rfl⟩
      have wQ : IntKind.i64.wrap (s3 - n) = s4 := by rw [IntWalk.i64_in _ (by omega)]; exact hs4.symm
      have le2 : s2 ≤ 1 := by omega
      have le4 : s4 ≤ 1 := by omega
      clear wM hs1 hs2 hs3 hs4 b1 b2 b3 b4 b5 b6 l1 l2 l3 l4 l5 l6 l7 l8
      go_wp2_with fail
      refine (T1.out _).mono ?_
      rintro e w' ⟨k1, rfl, rfl⟩
      go_wp2_with fail
      refine (T2.out _).mono ?_
      rintro e w' ⟨k2, rfl, rfl⟩
      go_wp2_with fail
      refine (T3.out _).mono ?_
      rintro e w' ⟨k3, rfl, rfl⟩
      go_wp2_with fail
      refine (T4.out _).mono ?_
      rintro e w' ⟨k4, rfl, rfl⟩
      go_wp2_with fail
      refine (AngleOf_any 0 1065353216 1048576000 _ (by decide +kernel) (by decide +kernel) angle_i (by decide +kernel)).mono ?_
      rintro e w2 ⟨rfl, hb2⟩
      have HB2 := Lib.hid hb2
      clear hb2
      go_wp2_with fail
      refine (Same_no _).mono ?_
      rintro e w' ⟨rfl, hw⟩
      subst w'
      go_wp2
      go_ret
      exact ⟨rfl, circ_below HB.out HB2.out⟩
  · clear hreal
    go_wp2_with fail
    refine (At0_200 _ _ _ ys _ h_b1 hy hl').mono ?_
    rintro e w' ⟨y0, lo, hi, rfl, hw⟩
    subst w'
    obtain ⟨I, hI0, hI1, hI⟩ : ∃ I : Nat, 1 ≤ I ∧ I ≤ 200 ∧ 1 + y0 = (I : Int) := ⟨(1 + y0).toNat, by omega, by omega, by omega⟩
    have wI : IntKind.i64.wrap (1 + y0) = (I : Int) := by rw [IntWalk.i64_in _ (by omega)]; exact hI
    clear lo hi hI
    obtain ⟨qx, qy⟩ := fv_some (X3_quo hI0 hI1)
    have HI0 := Lib.hid hI0
    have HI1 := Lib.hid hI1
    clear hI0 hI1
    go_wp2_with fail
    refine (At1_200 _ _ _ ys _ h_b1 hy hl').mono ?_
    rintro e w' ⟨y1, lo, hi, rfl, hw⟩
    subst w'
    obtain ⟨J, hJ0, hJ1, hJ⟩ : ∃ J : Nat, 1 ≤ J ∧ J ≤ 200 ∧ 1 + y1 = (J : Int) := ⟨(1 + y1).toNat, by omega, by omega, by omega⟩
    have wJ : IntKind.i64.wrap (1 + y1) = (J : Int) := by rw [IntWalk.i64_in _ (by omega)]; exact hJ
    clear lo hi hJ
    obtain ⟨qz, qw⟩ := fv_some (X3_quo hJ0 hJ1)
    obtain ⟨qm1, qm2⟩ := fv_some (X3_mul HI0.out HI1.out hJ0 hJ1)
    obtain ⟨m, n, o, b1, b2, b3, b4, b5, b6, l1, l2, l3, l4, l5, l6, l7, l8⟩ := tenths_law HI0.out HI1.out hJ0 hJ1
    clear hJ0 hJ1
    generalize X3 (8 * I) = X at *
    generalize X3 (8 * J) = Y at *
    generalize X3 (I * J) = XY at *
    have T1 := Lib.hid (fun W => ten_lit (x := X) W b2 b1)
    have T2 := Lib.hid (fun W => ten_lit (x := Y) W b4 b3)
    have T3 := Lib.hid (fun W => ten_lit (x := XY) W b6 b5)
    have T4 := Lib.hid (fun W => ten_lit (x := 1065353216) W tenths_one.1 tenths_one.2)
    have wM : IntKind.i64.wrap (m + n) = m + n := IntWalk.i64_in _ (by omega)
    obtain ⟨s1, hs1⟩ : ∃ s1, s1 = m + n := ⟨_, rfl⟩
    have wN : IntKind.i64.wrap (m + n) = s1 := by rw [IntWalk.i64_in _ (by omega)]; exact hs1.symm
    obtain ⟨s2, hs2⟩ : ∃ s2, s2 = s1 - o := ⟨_, rfl⟩
    have wO : IntKind.i64.wrap (s1 - o) = s2 := by rw [IntWalk.i64_in _ (by omega)]; exact hs2.symm
    obtain ⟨s3, hs3⟩ : ∃ s3, s3 = o - m := ⟨_, rfl⟩
    have wP : IntKind.i64.wrap (o - m) = s3 := by rw [IntWalk.i64_in _ (by omega)]; exact hs3.symm
    obtain ⟨s4, hs4⟩ : ∃ s4, s4 = s3 - n := ⟨_, rfl⟩
    have wQ : IntKind.i64.wrap (s3 - n) = s4 := by rw [IntWalk.i64_in _ (by omega)]; exact hs4.symm
    have le2 : s2 ≤ 1 := by omega
    have le4 : s4 ≤ 1 := by omega
    clear wM hs1 hs2 hs3 hs4 b1 b2 b3 b4 b5 b6 l1 l2 l3 l4 l5 l6 l7 l8
    go_wp2_with fail
    refine (T1.out _).mono ?_
    rintro e w' ⟨k1, rfl, rfl⟩
    go_wp2_with fail
    refine (T2.out _).mono ?_
    rintro e w' ⟨k2, rfl, rfl⟩
    go_wp2_with fail
    refine (T3.out _).mono ?_
    rintro e w' ⟨k3, rfl, rfl⟩
    go_wp2_with fail
    refine (T4.out _).mono ?_
    rintro e w' ⟨k4, rfl, rfl⟩
    go_wp2_with fail
    refine (AngleOf_any 0 1065353216 1048576000 _ (by decide +kernel) (by decide +kernel) angle_i (by decide +kernel)).mono ?_
    rintro e w2 ⟨rfl, hb2⟩
    have HB2 := Lib.hid hb2
    clear hb2
    go_wp2_with fail
    refine (Same_no _).mono ?_
    rintro e w' ⟨rfl, hw⟩
    subst w'
    go_wp2
    go_ret
    exact ⟨rfl, circ_below HB.out HB2.out⟩
set_option maxRecDepth 100000 in
set_option maxHeartbeats 4000000 in
theorem fnCircles_walk (a : Option Addr) (len cap : Nat) (xs : List Int) (b : Option Addr) (len' cap' : Nat) (ys : List Int) (w0 : World) (h_a : IsBRow w0 a len cap xs) (hx : ∀ z ∈ xs, 0 ≤ z ∧ z ≤ 255) (h_b : IsBRow w0 b len' cap' ys) (hy : ∀ z ∈ ys, 0 ≤ z ∧ z ≤ 255) :
    Calls Try.prog 7 #[.slice a len cap, .slice b len' cap'] w0 fun e w' => e = .returned (.bool true) ∧ Below w0.heap.size w0 w' := by
  cases hlong : longB len len'
  · exact circles_in a b len cap len' cap' xs ys w0 h_a hx h_b hy hlong
  · have hl : len ≤ maxLen := Nat.le_trans h_a.2.1 h_a.2.2.1
    have hl' : len' ≤ maxLen := Nat.le_trans h_b.2.1 h_b.2.2.1
    clear h_a h_b hx hy
    go_enter Try.func7, Try.ntmps7
    go_wp2_with fail
    refine (Long_any _ _ _ _ _ _ _ hl hl').mono ?_
    rintro e w' ⟨rfl, hw⟩
    subst w'
    go_wp2
    go_ret
    exact ⟨rfl, Below.refl _ _⟩
end Go.Proofs.Ytokbpcfgeklliaa
