/-
  AngleTurns of the program, walked; the law.
-/
import Derived.Test.YtokbpcfgeklliaaAngW
import Derived.Great.BuildSlice
namespace Go.Proofs.Ytokbpcfgeklliaa
open Go.RowKit
open Ieee
set_option linter.unusedVariables false
set_option linter.unusedSimpArgs false

theorem info_f32 : (Try.prog.info? 22).map (fun i => (i.zero, i.size)) = some (some (.float .f32 0), 1) := by kernel_rfl
@[go_sem] theorem build_two (w : World) (x y : Nat) : (Instr.buildSlice 54 2 #[(0, .float .f32 x), (1, .float .f32 y)]).run Try.prog w = .ok (.slice (some ⟨w.heap.size, 0, none⟩) 2 2) (w.alloc (.cells #[.float .f32 x, .float .f32 y] 22)) := by
  cases hi : Try.prog.info? 22 with
  | none => have := info_f32; rw [hi] at this; cases this
  | some i0 =>
    have h := info_f32
    rw [hi] at h
    simp only [Option.map_some, Option.some.injEq, Prod.mk.injEq] at h
    exact run_buildSlice w _ _ 2 _ _ i0 _ Try.underlying54 hi h.1 (by rw [h.2]; decide) (by rw [h.2]; decide) (by rw [h.2]; kernel_rfl)
theorem two_cells (w : World) (x y : Nat) : (w.alloc (.cells #[.float .f32 x, .float .f32 y] 22)).cell? ⟨w.heap.size, 0, none⟩ = some (.float .f32 x) ∧ (w.alloc (.cells #[.float .f32 x, .float .f32 y] 22)).cell? ⟨w.heap.size, 1, none⟩ = some (.float .f32 y) := by
  constructor <;> (rw [World.cell?_alloc_new]; rfl)

set_option maxHeartbeats 8000000 in
theorem implAng_nan (y x : Nat) (w : World) (hf : (fin .f32 x && fin .f32 y) = false) : Calls Try.prog 12 #[.float .f32 y, .float .f32 x] w fun e w' => ∃ r, e = .returned (.float .f32 r) ∧ cn .f32 r = angF y x ∧ Below w.heap.size w w' := by
  have HF := Lib.hid (angF_nan (y := y) (x := x) (by rw [Bool.and_comm]; exact hf))
  go_enter Try.func12, Try.ntmps12
  go_wp2_with (first | (go_at_call 32; refine (areFin_any _ _ _ _ (two_cells _ _ _).1 (two_cells _ _ _).2).mono ?_; rintro e w' ⟨rfl, n, rfl⟩) | (go_at_call 28; refine (NaN_any _).mono ?_; rintro e w' ⟨rfl, rfl⟩))
  go_ret
  exact ⟨_, rfl, by rw [HF.out]; exact narrow_nan _, (by first | exact below_drewN ((Below.refl w.heap.size w).alloc (Nat.le_refl _) _) _ | exact below_drewN (below_drewN ((Below.refl w.heap.size w).alloc (Nat.le_refl _) _) _) _ | exact below_drewN (below_drewN (below_drewN ((Below.refl w.heap.size w).alloc (Nat.le_refl _) _) _) _) _)⟩
set_option maxHeartbeats 8000000 in
theorem implAng_zero (y x : Nat) (w : World) (hy : fin .f32 y = true) (hx : fin .f32 x = true) (h : rg .f32 x = 0 ∧ rg .f32 y = 0) : Calls Try.prog 12 #[.float .f32 y, .float .f32 x] w fun e w' => ∃ r, e = .returned (.float .f32 r) ∧ cn .f32 r = angF y x ∧ Below w.heap.size w w' := by
  have HF := Lib.hid (angF_zero hy hx h)
  have z0 : (FloatKind.f32.format.order x 0 == some .eq) = true := by rw [eq_zero hx]; exact decide_eq_true h.1
  have z1 : (FloatKind.f32.format.order y 0 == some .eq) = true := by rw [eq_zero hy]; exact decide_eq_true h.2
  clear h
  go_enter Try.func12, Try.ntmps12
  go_wp2_with (first | (go_at_call 32; refine (areFin_any _ _ _ _ (two_cells _ _ _).1 (two_cells _ _ _).2).mono ?_; rintro e w' ⟨rfl, n, rfl⟩) | (go_at_call 28; refine (NaN_any _).mono ?_; rintro e w' ⟨rfl, rfl⟩))
  go_ret
  exact ⟨_, rfl, by rw [HF.out]; decide +kernel, (by first | exact below_drewN ((Below.refl w.heap.size w).alloc (Nat.le_refl _) _) _ | exact below_drewN (below_drewN ((Below.refl w.heap.size w).alloc (Nat.le_refl _) _) _) _ | exact below_drewN (below_drewN (below_drewN ((Below.refl w.heap.size w).alloc (Nat.le_refl _) _) _) _) _)⟩
set_option maxHeartbeats 8000000 in
theorem implAng_mid (y x yw xw a b : Nat) (xn yn : Bool) (w : World) (hy : fin .f32 y = true) (hx : fin .f32 x = true) (ycv : ∀ W : World, cv .f32 .f64 y W = yw) (xcv : ∀ W : World, cv .f32 .f64 x W = xw) (ycd : cd .f32 .f64 y = 0) (xcd : cd .f32 .f64 x = 0) (hwy : (Lit.float .f64 yw).wf = true) (hwx : (Lit.float .f64 xw).wf = true) (hra : rg .f64 yw = a) (hrb : rg .f64 xw = b) (hnz : ¬ (rg .f32 x = 0 ∧ rg .f32 y = 0)) (hX : (FloatKind.f32.format.order x 0 == some .lt) = xn) (hY : (FloatKind.f32.format.order y 0 == some .lt) = yn) (ha : cn .f64 a = a) (hb : cn .f64 b = b) (hbd : Bd (angY yn (angX xn (angO (gtrC a b) (angM (rndI 3 (ratA a b)))))) 127) :
    Calls Try.prog 12 #[.float .f32 y, .float .f32 x] w fun e w' => ∃ r, e = .returned (.float .f32 r) ∧ cn .f32 r = co .f64 .f32 (angY yn (angX xn (angO (gtrC a b) (angM (rndI 3 (ratA a b)))))) ∧ Below w.heap.size w w' := by
  have z0 := eq_zero hx
  have z1 := eq_zero hy
  have HX := Lib.hid hX
  have HY := Lib.hid hY
  have HA := Lib.hid ha
  have HB := Lib.hid hb
  have HBD := Lib.hid hbd
  obtain ⟨t0, ht0⟩ : ∃ t0, t0 = ratA a b := ⟨_, rfl⟩
  rw [← ht0] at HBD ⊢
  have hz := World.drewN_zero
  clear hX hY ha hb hbd
  by_cases hx0 : rg .f32 x = 0
  · cases hg : gtrC a b
    · have e0 : (FloatKind.f32.format.order x 0 == some .eq) = true := by rw [z0]; exact decide_eq_true hx0
      have e1 : (FloatKind.f32.format.order y 0 == some .eq) = false := by rw [z1]; exact decide_eq_false (fun h => hnz ⟨hx0, h⟩)
      have v0 : (FloatKind.f64.format.order a b == some .gt) = false := hg
      have HT : Hid (t0 = fo .quo .f64 a b) := by show t0 = _; rw [ht0]; unfold ratA; rw [hg]; rfl
      have HG := Lib.hid hg
      clear hg z0 z1 hnz hx0 ht0
      subst hra hrb
      go_enter Try.func12, Try.ntmps12
      go_wp2_with (first | (go_at_call 32; refine (areFin_any _ _ _ _ (two_cells _ _ _).1 (two_cells _ _ _).2).mono ?_; rintro e w1 ⟨rfl, n, hw1⟩; have hb1 : Below w.heap.size w w1 := (by rw [hw1]; exact below_drewN ((Below.refl w.heap.size w).alloc (Nat.le_refl _) _) _); clear hw1) | (go_at_call 28; refine (NaN_any _).mono ?_; rintro e w' ⟨rfl, rfl⟩) | (go_at_call 29; first | (refine (Abs_any _ _ hwy).mono ?_; rintro e w' ⟨rfl, rfl⟩) | (refine (Abs_any _ _ hwx).mono ?_; rintro e w' ⟨rfl, rfl⟩)))
      go_loopw [7, 42] (fun t i wr => ∃ k : Nat, k ≤ 3 ∧ i = .int .i64 k ∧ (∃ tb, t = .float .f64 tb ∧ cn .f64 tb = rndI k t0) ∧ ∃ n, wr = w1.drewN n) (fun _ i _ => 3 - (intOf i).toNat)
      case atStart => exact ⟨0, by omega, rfl, ⟨_, rfl, (by rw [show rndI 0 t0 = t0 from rfl, HT.out, cn_fv, HA.out, HB.out])⟩, by first | exact ⟨_, rfl⟩ | exact ⟨0, rfl⟩⟩
      case round =>
        obtain ⟨k, hk, rfl, ⟨tb, rfl, htb⟩, n2, hwr⟩ := hrel
        have HW := Lib.hid hwr
        have HTB := Lib.hid htb
        clear hwr htb
        by_cases h1 : k < 3
        · have w1 := wrap_three h1
          go_wp2_with (go_at_call 33; go_in)
          go_roundw
          case rel =>
            refine ⟨k + 1, by omega, by go_num, ⟨_, rfl, ?_⟩, by rw [HW.out]; simp only [World.drewN_drewN]; exact ⟨_, rfl⟩⟩
            simp only [cn_fv, cn_sqv, HTB.out, cnK1, rndI_step]
          case measure => simp [intOf]; omega
        · obtain rfl : k = 3 := by omega
          obtain ⟨tt, htt⟩ : ∃ tt, tt = rndI 3 t0 := ⟨_, rfl⟩
          have HTT := Lib.hid htt
          have HT2 : Hid (cn .f64 tb = tt) := by show cn .f64 tb = tt; rw [HTB.out, HTT.out]
          clear hk h1 htt HTB
          go_wp2
          go_loopw [9, 10] (fun p i wr => ∃ j : Nat, j ≤ 8 ∧ i = .int .i64 (15 - 2 * (j : Int)) ∧ (∃ pb, p = .float .f64 pb ∧ cn .f64 pb = pA (fo .mul .f64 tt tt) j) ∧ ∃ n, wr = w1.drewN n) (fun _ i _ => (intOf i + 2).toNat)
          case atStart => exact ⟨0, by omega, rfl, ⟨_, rfl, cn0'⟩, by rw [HW.out]; simp only [World.drewN_drewN]; exact ⟨_, rfl⟩⟩
          case round =>
            obtain ⟨j, hj, rfl, ⟨pb, rfl, hpb⟩, n3, hwr⟩ := hrel
            have HW2 := Lib.hid hwr
            have HPB := Lib.hid hpb
            clear hwr hpb
            by_cases h1 : j < 8
            · have w1 := wrap_two h1
              go_wp2
              go_roundw
              case rel =>
                refine ⟨j + 1, by omega, by go_num, ⟨_, rfl, ?_⟩, by rw [HW2.out]; simp only [World.drewN_drewN]; exact ⟨_, rfl⟩⟩
                simp only [cn_fv, HT2.out, HPB.out, foi_cn, cnK1, pA_step]
              case measure => simp [intOf]; omega
            · obtain rfl : j = 8 := by omega
              clear hj h1
              cases hX : xn <;> cases hY : yn <;> rw [hX] at HX <;> rw [hY] at HY <;> have EX := Lib.hid hX <;> have EY := Lib.hid hY <;> clear hX hY
              · have q1 := HX.out
                have q2 := HY.out
                go_wp2_with fail
                go_ret
                refine ⟨_, rfl, ?_, by rw [HW2.out]; simp only [World.drewN_drewN]; first | exact hb1 | exact below_drewN hb1 _⟩
                refine narrow_bd _ ?_ (by have hh := HBD.out; rw [HG.out] at hh; exact hh)
                simp only [cn_fv, cn_neg, HT2.out, HPB.out, cnK8, cnK2pi, cnK025, cnK05, foi_cn]
                rw [HTT.out, EX.out, EY.out]
                rfl
              · have q1 := HX.out
                have q2 := HY.out
                go_wp2_with fail
                go_ret
                refine ⟨_, rfl, ?_, by rw [HW2.out]; simp only [World.drewN_drewN]; first | exact hb1 | exact below_drewN hb1 _⟩
                refine narrow_bd _ ?_ (by have hh := HBD.out; rw [HG.out] at hh; exact hh)
                simp only [cn_fv, cn_neg, HT2.out, HPB.out, cnK8, cnK2pi, cnK025, cnK05, foi_cn]
                rw [HTT.out, EX.out, EY.out]
                rfl
              · have q1 := HX.out
                have q2 := HY.out
                go_wp2_with fail
                go_ret
                refine ⟨_, rfl, ?_, by rw [HW2.out]; simp only [World.drewN_drewN]; first | exact hb1 | exact below_drewN hb1 _⟩
                refine narrow_bd _ ?_ (by have hh := HBD.out; rw [HG.out] at hh; exact hh)
                simp only [cn_fv, cn_neg, HT2.out, HPB.out, cnK8, cnK2pi, cnK025, cnK05, foi_cn]
                rw [HTT.out, EX.out, EY.out]
                rfl
              · have q1 := HX.out
                have q2 := HY.out
                go_wp2_with fail
                go_ret
                refine ⟨_, rfl, ?_, by rw [HW2.out]; simp only [World.drewN_drewN]; first | exact hb1 | exact below_drewN hb1 _⟩
                refine narrow_bd _ ?_ (by have hh := HBD.out; rw [HG.out] at hh; exact hh)
                simp only [cn_fv, cn_neg, HT2.out, HPB.out, cnK8, cnK2pi, cnK025, cnK05, foi_cn]
                rw [HTT.out, EX.out, EY.out]
                rfl
    · have e0 : (FloatKind.f32.format.order x 0 == some .eq) = true := by rw [z0]; exact decide_eq_true hx0
      have e1 : (FloatKind.f32.format.order y 0 == some .eq) = false := by rw [z1]; exact decide_eq_false (fun h => hnz ⟨hx0, h⟩)
      have v0 : (FloatKind.f64.format.order a b == some .gt) = true := hg
      have HT : Hid (t0 = fo .quo .f64 b a) := by show t0 = _; rw [ht0]; unfold ratA; rw [hg]; rfl
      have HG := Lib.hid hg
      clear hg z0 z1 hnz hx0 ht0
      subst hra hrb
      go_enter Try.func12, Try.ntmps12
      go_wp2_with (first | (go_at_call 32; refine (areFin_any _ _ _ _ (two_cells _ _ _).1 (two_cells _ _ _).2).mono ?_; rintro e w1 ⟨rfl, n, hw1⟩; have hb1 : Below w.heap.size w w1 := (by rw [hw1]; exact below_drewN ((Below.refl w.heap.size w).alloc (Nat.le_refl _) _) _); clear hw1) | (go_at_call 28; refine (NaN_any _).mono ?_; rintro e w' ⟨rfl, rfl⟩) | (go_at_call 29; first | (refine (Abs_any _ _ hwy).mono ?_; rintro e w' ⟨rfl, rfl⟩) | (refine (Abs_any _ _ hwx).mono ?_; rintro e w' ⟨rfl, rfl⟩)))
      go_loopw [7, 42] (fun t i wr => ∃ k : Nat, k ≤ 3 ∧ i = .int .i64 k ∧ (∃ tb, t = .float .f64 tb ∧ cn .f64 tb = rndI k t0) ∧ ∃ n, wr = w1.drewN n) (fun _ i _ => 3 - (intOf i).toNat)
      case atStart => exact ⟨0, by omega, rfl, ⟨_, rfl, (by rw [show rndI 0 t0 = t0 from rfl, HT.out, cn_fv, HA.out, HB.out])⟩, by first | exact ⟨_, rfl⟩ | exact ⟨0, rfl⟩⟩
      case round =>
        obtain ⟨k, hk, rfl, ⟨tb, rfl, htb⟩, n2, hwr⟩ := hrel
        have HW := Lib.hid hwr
        have HTB := Lib.hid htb
        clear hwr htb
        by_cases h1 : k < 3
        · have w1 := wrap_three h1
          go_wp2_with (go_at_call 33; go_in)
          go_roundw
          case rel =>
            refine ⟨k + 1, by omega, by go_num, ⟨_, rfl, ?_⟩, by rw [HW.out]; simp only [World.drewN_drewN]; exact ⟨_, rfl⟩⟩
            simp only [cn_fv, cn_sqv, HTB.out, cnK1, rndI_step]
          case measure => simp [intOf]; omega
        · obtain rfl : k = 3 := by omega
          obtain ⟨tt, htt⟩ : ∃ tt, tt = rndI 3 t0 := ⟨_, rfl⟩
          have HTT := Lib.hid htt
          have HT2 : Hid (cn .f64 tb = tt) := by show cn .f64 tb = tt; rw [HTB.out, HTT.out]
          clear hk h1 htt HTB
          go_wp2
          go_loopw [9, 10] (fun p i wr => ∃ j : Nat, j ≤ 8 ∧ i = .int .i64 (15 - 2 * (j : Int)) ∧ (∃ pb, p = .float .f64 pb ∧ cn .f64 pb = pA (fo .mul .f64 tt tt) j) ∧ ∃ n, wr = w1.drewN n) (fun _ i _ => (intOf i + 2).toNat)
          case atStart => exact ⟨0, by omega, rfl, ⟨_, rfl, cn0'⟩, by rw [HW.out]; simp only [World.drewN_drewN]; exact ⟨_, rfl⟩⟩
          case round =>
            obtain ⟨j, hj, rfl, ⟨pb, rfl, hpb⟩, n3, hwr⟩ := hrel
            have HW2 := Lib.hid hwr
            have HPB := Lib.hid hpb
            clear hwr hpb
            by_cases h1 : j < 8
            · have w1 := wrap_two h1
              go_wp2
              go_roundw
              case rel =>
                refine ⟨j + 1, by omega, by go_num, ⟨_, rfl, ?_⟩, by rw [HW2.out]; simp only [World.drewN_drewN]; exact ⟨_, rfl⟩⟩
                simp only [cn_fv, HT2.out, HPB.out, foi_cn, cnK1, pA_step]
              case measure => simp [intOf]; omega
            · obtain rfl : j = 8 := by omega
              clear hj h1
              cases hX : xn <;> cases hY : yn <;> rw [hX] at HX <;> rw [hY] at HY <;> have EX := Lib.hid hX <;> have EY := Lib.hid hY <;> clear hX hY
              · have q1 := HX.out
                have q2 := HY.out
                go_wp2_with fail
                go_ret
                refine ⟨_, rfl, ?_, by rw [HW2.out]; simp only [World.drewN_drewN]; first | exact hb1 | exact below_drewN hb1 _⟩
                refine narrow_bd _ ?_ (by have hh := HBD.out; rw [HG.out] at hh; exact hh)
                simp only [cn_fv, cn_neg, HT2.out, HPB.out, cnK8, cnK2pi, cnK025, cnK05, foi_cn]
                rw [HTT.out, EX.out, EY.out]
                rfl
              · have q1 := HX.out
                have q2 := HY.out
                go_wp2_with fail
                go_ret
                refine ⟨_, rfl, ?_, by rw [HW2.out]; simp only [World.drewN_drewN]; first | exact hb1 | exact below_drewN hb1 _⟩
                refine narrow_bd _ ?_ (by have hh := HBD.out; rw [HG.out] at hh; exact hh)
                simp only [cn_fv, cn_neg, HT2.out, HPB.out, cnK8, cnK2pi, cnK025, cnK05, foi_cn]
                rw [HTT.out, EX.out, EY.out]
                rfl
              · have q1 := HX.out
                have q2 := HY.out
                go_wp2_with fail
                go_ret
                refine ⟨_, rfl, ?_, by rw [HW2.out]; simp only [World.drewN_drewN]; first | exact hb1 | exact below_drewN hb1 _⟩
                refine narrow_bd _ ?_ (by have hh := HBD.out; rw [HG.out] at hh; exact hh)
                simp only [cn_fv, cn_neg, HT2.out, HPB.out, cnK8, cnK2pi, cnK025, cnK05, foi_cn]
                rw [HTT.out, EX.out, EY.out]
                rfl
              · have q1 := HX.out
                have q2 := HY.out
                go_wp2_with fail
                go_ret
                refine ⟨_, rfl, ?_, by rw [HW2.out]; simp only [World.drewN_drewN]; first | exact hb1 | exact below_drewN hb1 _⟩
                refine narrow_bd _ ?_ (by have hh := HBD.out; rw [HG.out] at hh; exact hh)
                simp only [cn_fv, cn_neg, HT2.out, HPB.out, cnK8, cnK2pi, cnK025, cnK05, foi_cn]
                rw [HTT.out, EX.out, EY.out]
                rfl
  · cases hg : gtrC a b
    · have e0 : (FloatKind.f32.format.order x 0 == some .eq) = false := by rw [z0]; exact decide_eq_false hx0
      have v0 : (FloatKind.f64.format.order a b == some .gt) = false := hg
      have HT : Hid (t0 = fo .quo .f64 a b) := by show t0 = _; rw [ht0]; unfold ratA; rw [hg]; rfl
      have HG := Lib.hid hg
      clear hg z0 z1 hnz hx0 ht0
      subst hra hrb
      go_enter Try.func12, Try.ntmps12
      go_wp2_with (first | (go_at_call 32; refine (areFin_any _ _ _ _ (two_cells _ _ _).1 (two_cells _ _ _).2).mono ?_; rintro e w1 ⟨rfl, n, hw1⟩; have hb1 : Below w.heap.size w w1 := (by rw [hw1]; exact below_drewN ((Below.refl w.heap.size w).alloc (Nat.le_refl _) _) _); clear hw1) | (go_at_call 28; refine (NaN_any _).mono ?_; rintro e w' ⟨rfl, rfl⟩) | (go_at_call 29; first | (refine (Abs_any _ _ hwy).mono ?_; rintro e w' ⟨rfl, rfl⟩) | (refine (Abs_any _ _ hwx).mono ?_; rintro e w' ⟨rfl, rfl⟩)))
      go_loopw [7, 42] (fun t i wr => ∃ k : Nat, k ≤ 3 ∧ i = .int .i64 k ∧ (∃ tb, t = .float .f64 tb ∧ cn .f64 tb = rndI k t0) ∧ ∃ n, wr = w1.drewN n) (fun _ i _ => 3 - (intOf i).toNat)
      case atStart => exact ⟨0, by omega, rfl, ⟨_, rfl, (by rw [show rndI 0 t0 = t0 from rfl, HT.out, cn_fv, HA.out, HB.out])⟩, by first | exact ⟨_, rfl⟩ | exact ⟨0, rfl⟩⟩
      case round =>
        obtain ⟨k, hk, rfl, ⟨tb, rfl, htb⟩, n2, hwr⟩ := hrel
        have HW := Lib.hid hwr
        have HTB := Lib.hid htb
        clear hwr htb
        by_cases h1 : k < 3
        · have w1 := wrap_three h1
          go_wp2_with (go_at_call 33; go_in)
          go_roundw
          case rel =>
            refine ⟨k + 1, by omega, by go_num, ⟨_, rfl, ?_⟩, by rw [HW.out]; simp only [World.drewN_drewN]; exact ⟨_, rfl⟩⟩
            simp only [cn_fv, cn_sqv, HTB.out, cnK1, rndI_step]
          case measure => simp [intOf]; omega
        · obtain rfl : k = 3 := by omega
          obtain ⟨tt, htt⟩ : ∃ tt, tt = rndI 3 t0 := ⟨_, rfl⟩
          have HTT := Lib.hid htt
          have HT2 : Hid (cn .f64 tb = tt) := by show cn .f64 tb = tt; rw [HTB.out, HTT.out]
          clear hk h1 htt HTB
          go_wp2
          go_loopw [9, 10] (fun p i wr => ∃ j : Nat, j ≤ 8 ∧ i = .int .i64 (15 - 2 * (j : Int)) ∧ (∃ pb, p = .float .f64 pb ∧ cn .f64 pb = pA (fo .mul .f64 tt tt) j) ∧ ∃ n, wr = w1.drewN n) (fun _ i _ => (intOf i + 2).toNat)
          case atStart => exact ⟨0, by omega, rfl, ⟨_, rfl, cn0'⟩, by rw [HW.out]; simp only [World.drewN_drewN]; exact ⟨_, rfl⟩⟩
          case round =>
            obtain ⟨j, hj, rfl, ⟨pb, rfl, hpb⟩, n3, hwr⟩ := hrel
            have HW2 := Lib.hid hwr
            have HPB := Lib.hid hpb
            clear hwr hpb
            by_cases h1 : j < 8
            · have w1 := wrap_two h1
              go_wp2
              go_roundw
              case rel =>
                refine ⟨j + 1, by omega, by go_num, ⟨_, rfl, ?_⟩, by rw [HW2.out]; simp only [World.drewN_drewN]; exact ⟨_, rfl⟩⟩
                simp only [cn_fv, HT2.out, HPB.out, foi_cn, cnK1, pA_step]
              case measure => simp [intOf]; omega
            · obtain rfl : j = 8 := by omega
              clear hj h1
              cases hX : xn <;> cases hY : yn <;> rw [hX] at HX <;> rw [hY] at HY <;> have EX := Lib.hid hX <;> have EY := Lib.hid hY <;> clear hX hY
              · have q1 := HX.out
                have q2 := HY.out
                go_wp2_with fail
                go_ret
                refine ⟨_, rfl, ?_, by rw [HW2.out]; simp only [World.drewN_drewN]; first | exact hb1 | exact below_drewN hb1 _⟩
                refine narrow_bd _ ?_ (by have hh := HBD.out; rw [HG.out] at hh; exact hh)
                simp only [cn_fv, cn_neg, HT2.out, HPB.out, cnK8, cnK2pi, cnK025, cnK05, foi_cn]
                rw [HTT.out, EX.out, EY.out]
                rfl
              · have q1 := HX.out
                have q2 := HY.out
                go_wp2_with fail
                go_ret
                refine ⟨_, rfl, ?_, by rw [HW2.out]; simp only [World.drewN_drewN]; first | exact hb1 | exact below_drewN hb1 _⟩
                refine narrow_bd _ ?_ (by have hh := HBD.out; rw [HG.out] at hh; exact hh)
                simp only [cn_fv, cn_neg, HT2.out, HPB.out, cnK8, cnK2pi, cnK025, cnK05, foi_cn]
                rw [HTT.out, EX.out, EY.out]
                rfl
              · have q1 := HX.out
                have q2 := HY.out
                go_wp2_with fail
                go_ret
                refine ⟨_, rfl, ?_, by rw [HW2.out]; simp only [World.drewN_drewN]; first | exact hb1 | exact below_drewN hb1 _⟩
                refine narrow_bd _ ?_ (by have hh := HBD.out; rw [HG.out] at hh; exact hh)
                simp only [cn_fv, cn_neg, HT2.out, HPB.out, cnK8, cnK2pi, cnK025, cnK05, foi_cn]
                rw [HTT.out, EX.out, EY.out]
                rfl
              · have q1 := HX.out
                have q2 := HY.out
                go_wp2_with fail
                go_ret
                refine ⟨_, rfl, ?_, by rw [HW2.out]; simp only [World.drewN_drewN]; first | exact hb1 | exact below_drewN hb1 _⟩
                refine narrow_bd _ ?_ (by have hh := HBD.out; rw [HG.out] at hh; exact hh)
                simp only [cn_fv, cn_neg, HT2.out, HPB.out, cnK8, cnK2pi, cnK025, cnK05, foi_cn]
                rw [HTT.out, EX.out, EY.out]
                rfl
    · have e0 : (FloatKind.f32.format.order x 0 == some .eq) = false := by rw [z0]; exact decide_eq_false hx0
      have v0 : (FloatKind.f64.format.order a b == some .gt) = true := hg
      have HT : Hid (t0 = fo .quo .f64 b a) := by show t0 = _; rw [ht0]; unfold ratA; rw [hg]; rfl
      have HG := Lib.hid hg
      clear hg z0 z1 hnz hx0 ht0
      subst hra hrb
      go_enter Try.func12, Try.ntmps12
      go_wp2_with (first | (go_at_call 32; refine (areFin_any _ _ _ _ (two_cells _ _ _).1 (two_cells _ _ _).2).mono ?_; rintro e w1 ⟨rfl, n, hw1⟩; have hb1 : Below w.heap.size w w1 := (by rw [hw1]; exact below_drewN ((Below.refl w.heap.size w).alloc (Nat.le_refl _) _) _); clear hw1) | (go_at_call 28; refine (NaN_any _).mono ?_; rintro e w' ⟨rfl, rfl⟩) | (go_at_call 29; first | (refine (Abs_any _ _ hwy).mono ?_; rintro e w' ⟨rfl, rfl⟩) | (refine (Abs_any _ _ hwx).mono ?_; rintro e w' ⟨rfl, rfl⟩)))
      go_loopw [7, 42] (fun t i wr => ∃ k : Nat, k ≤ 3 ∧ i = .int .i64 k ∧ (∃ tb, t = .float .f64 tb ∧ cn .f64 tb = rndI k t0) ∧ ∃ n, wr = w1.drewN n) (fun _ i _ => 3 - (intOf i).toNat)
      case atStart => exact ⟨0, by omega, rfl, ⟨_, rfl, (by rw [show rndI 0 t0 = t0 from rfl, HT.out, cn_fv, HA.out, HB.out])⟩, by first | exact ⟨_, rfl⟩ | exact ⟨0, rfl⟩⟩
      case round =>
        obtain ⟨k, hk, rfl, ⟨tb, rfl, htb⟩, n2, hwr⟩ := hrel
        have HW := Lib.hid hwr
        have HTB := Lib.hid htb
        clear hwr htb
        by_cases h1 : k < 3
        · have w1 := wrap_three h1
          go_wp2_with (go_at_call 33; go_in)
          go_roundw
          case rel =>
            refine ⟨k + 1, by omega, by go_num, ⟨_, rfl, ?_⟩, by rw [HW.out]; simp only [World.drewN_drewN]; exact ⟨_, rfl⟩⟩
            simp only [cn_fv, cn_sqv, HTB.out, cnK1, rndI_step]
          case measure => simp [intOf]; omega
        · obtain rfl : k = 3 := by omega
          obtain ⟨tt, htt⟩ : ∃ tt, tt = rndI 3 t0 := ⟨_, rfl⟩
          have HTT := Lib.hid htt
          have HT2 : Hid (cn .f64 tb = tt) := by show cn .f64 tb = tt; rw [HTB.out, HTT.out]
          clear hk h1 htt HTB
          go_wp2
          go_loopw [9, 10] (fun p i wr => ∃ j : Nat, j ≤ 8 ∧ i = .int .i64 (15 - 2 * (j : Int)) ∧ (∃ pb, p = .float .f64 pb ∧ cn .f64 pb = pA (fo .mul .f64 tt tt) j) ∧ ∃ n, wr = w1.drewN n) (fun _ i _ => (intOf i + 2).toNat)
          case atStart => exact ⟨0, by omega, rfl, ⟨_, rfl, cn0'⟩, by rw [HW.out]; simp only [World.drewN_drewN]; exact ⟨_, rfl⟩⟩
          case round =>
            obtain ⟨j, hj, rfl, ⟨pb, rfl, hpb⟩, n3, hwr⟩ := hrel
            have HW2 := Lib.hid hwr
            have HPB := Lib.hid hpb
            clear hwr hpb
            by_cases h1 : j < 8
            · have w1 := wrap_two h1
              go_wp2
              go_roundw
              case rel =>
                refine ⟨j + 1, by omega, by go_num, ⟨_, rfl, ?_⟩, by rw [HW2.out]; simp only [World.drewN_drewN]; exact ⟨_, rfl⟩⟩
                simp only [cn_fv, HT2.out, HPB.out, foi_cn, cnK1, pA_step]
              case measure => simp [intOf]; omega
            · obtain rfl : j = 8 := by omega
              clear hj h1
              cases hX : xn <;> cases hY : yn <;> rw [hX] at HX <;> rw [hY] at HY <;> have EX := Lib.hid hX <;> have EY := Lib.hid hY <;> clear hX hY
              · have q1 := HX.out
                have q2 := HY.out
                go_wp2_with fail
                go_ret
                refine ⟨_, rfl, ?_, by rw [HW2.out]; simp only [World.drewN_drewN]; first | exact hb1 | exact below_drewN hb1 _⟩
                refine narrow_bd _ ?_ (by have hh := HBD.out; rw [HG.out] at hh; exact hh)
                simp only [cn_fv, cn_neg, HT2.out, HPB.out, cnK8, cnK2pi, cnK025, cnK05, foi_cn]
                rw [HTT.out, EX.out, EY.out]
                rfl
              · have q1 := HX.out
                have q2 := HY.out
                go_wp2_with fail
                go_ret
                refine ⟨_, rfl, ?_, by rw [HW2.out]; simp only [World.drewN_drewN]; first | exact hb1 | exact below_drewN hb1 _⟩
                refine narrow_bd _ ?_ (by have hh := HBD.out; rw [HG.out] at hh; exact hh)
                simp only [cn_fv, cn_neg, HT2.out, HPB.out, cnK8, cnK2pi, cnK025, cnK05, foi_cn]
                rw [HTT.out, EX.out, EY.out]
                rfl
              · have q1 := HX.out
                have q2 := HY.out
                go_wp2_with fail
                go_ret
                refine ⟨_, rfl, ?_, by rw [HW2.out]; simp only [World.drewN_drewN]; first | exact hb1 | exact below_drewN hb1 _⟩
                refine narrow_bd _ ?_ (by have hh := HBD.out; rw [HG.out] at hh; exact hh)
                simp only [cn_fv, cn_neg, HT2.out, HPB.out, cnK8, cnK2pi, cnK025, cnK05, foi_cn]
                rw [HTT.out, EX.out, EY.out]
                rfl
              · have q1 := HX.out
                have q2 := HY.out
                go_wp2_with fail
                go_ret
                refine ⟨_, rfl, ?_, by rw [HW2.out]; simp only [World.drewN_drewN]; first | exact hb1 | exact below_drewN hb1 _⟩
                refine narrow_bd _ ?_ (by have hh := HBD.out; rw [HG.out] at hh; exact hh)
                simp only [cn_fv, cn_neg, HT2.out, HPB.out, cnK8, cnK2pi, cnK025, cnK05, foi_cn]
                rw [HTT.out, EX.out, EY.out]
                rfl
theorem implAng_any (y x : Nat) (w : World) (hwy : (Lit.float .f32 y).wf = true) (hwx : (Lit.float .f32 x).wf = true) : Calls Try.prog 12 #[.float .f32 y, .float .f32 x] w fun e w' => ∃ r, e = .returned (.float .f32 r) ∧ cn .f32 r = angF y x ∧ Below w.heap.size w w' := by
  cases hf : (fin .f32 x && fin .f32 y)
  · exact implAng_nan y x w hf
  · obtain ⟨hx, hy⟩ : fin .f32 x = true ∧ fin .f32 y = true := by simpa using hf
    by_cases hnz : rg .f32 x = 0 ∧ rg .f32 y = 0
    · exact implAng_zero y x w hy hx hnz
    · obtain ⟨ycv, ycd, yfy, yry⟩ := widen_is hy
      obtain ⟨xcv, xcd, xfx, xrx⟩ := widen_is hx
      have hwy' : (Lit.float .f64 (FloatKind.f64.format.word (sg .f32 y) (wr y))).wf = true := by rw [← ycv w]; exact cv_wf _ hwy
      have hwx' : (Lit.float .f64 (FloatKind.f64.format.word (sg .f32 x) (wr x))).wf = true := by rw [← xcv w]; exact cv_wf _ hwx
      rw [angF_mid hy hx hnz]
      exact implAng_mid y x _ _ _ _ _ _ w hy hx ycv xcv ycd xcd hwy' hwx' yry xrx hnz (lt_zero hx) (lt_zero hy) (cn_wr hy) (cn_wr hx) (ang_bd hy hx hnz _ _)
set_option maxHeartbeats 400000 in
theorem fnExactAngleTurns_walk (y x : Nat) (hy : (Lit.float .f32 y).wf = true) (hx : (Lit.float .f32 x).wf = true) (w : World) :
    Calls Try.prog 4 #[.float .f32 y, .float .f32 x] w fun e w' => e = .returned (.bool true) ∧ Below w.heap.size w w' := by
  go_enter Try.func4, Try.ntmps4
  go_wp2_with fail
  refine (specAng_any _ _ _ hy hx).mono ?_
  rintro e w1 ⟨b1, n1, rfl, h1, rfl⟩
  have H1 := Lib.hid h1
  clear h1
  go_wp2_with fail
  refine (implAng_any _ _ _ hy hx).mono ?_
  rintro e w2 ⟨b2, rfl, h2, hb2⟩
  have H2 := Lib.hid h2
  have HB := Lib.hid hb2
  clear h2 hb2
  go_wp2_with fail
  refine (sameFloat_any _ _ _ (by rw [cn_widen, cn_widen, H1.out, H2.out])).mono ?_
  rintro e w3 ⟨rfl, n3, rfl⟩
  go_wp2
  go_ret
  refine ⟨rfl, ?_⟩
  have := HB.out
  have h5 : Below w.heap.size w w2 := (below_drewN (Below.refl w.heap.size w) n1).trans this
  first | exact below_drewN h5 _ | exact below_drewN (below_drewN h5 _) _ | exact below_drewN (below_drewN (below_drewN h5 _) _) _
end Go.Proofs.Ytokbpcfgeklliaa